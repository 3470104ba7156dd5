/- What is said of one operation is what the machine does. -/
import Derived.Test.YtfbpeddokcjjnaaGreatDoorXmPartA
import Derived.RangeFuncIn
import Derived.RangeFuncRecord
import Derived.RangeFuncLeaves
import Derived.OrdersIn
import Derived.TacticsIn
import Derived.Sort.LoopGhostIn
import Derived.Deep.LoopGhost
import Derived.Lib.Bytealg
import Derived.Below
import Derived.RowKit
import Derived.Lib.Join
import Derived.Lib.ItoaMem
import Derived.Lib.ItoaLen
import Derived.Lib.LaidTab
namespace Go.Xn
set_option linter.all false
set_option linter.deprecated false
noncomputable section
section
variable {P : Program} {o : Oper} {a : Act} {w w' : World} {ρ : Rho} {σ : Sig} {M : Hp} {key : Nat} {env : Env} {Γ : Facts}

theorem Does.pure (hok : Ok ρ w σ M) {s : Sem Value} {r : Value} {val : XV} (hs : (execOp a.eval o).run P w = ((s >>= fun v => Pure.pure (Next.value v)) : Sem Next).run P w) (hr : s.run P w = .ok r w) (hv : VR ρ σ val r) :
    Does P o a w fun v w' => Post ρ w σ M key val M v w' := Does.made hs hr (.same hok hv)
theorem Eff.pure_eq {v : XV} {e : Eff} (h : Eff.pure v = some e) : e = ⟨v, [], []⟩ := by simpa [Eff.pure] using h.symm
theorem okNil_ok {x : XV} (h : okNil x = true) {v : Value} (hv : VR ρ σ x v) (hop : ∃ y, o.op = .nilCheck y ∧ a.eval y = v) : (execOp a.eval o).run P w = .ok (.value v) w := by
  obtain ⟨y, h1, h2⟩ := hop
  simp only [execOp, h1, h2]
  unfold okNil at h
  split at h <;> (try (cases h; done)) <;> simp only [VR] at hv
  · obtain ⟨_, _, _, rfl⟩ := hv; rfl
  · obtain ⟨_, _, _, _, _, rfl, _⟩ := hv; rfl
  · obtain ⟨_, _, _, rfl⟩ := hv; rfl
  · obtain ⟨_, rfl, _⟩ := hv; rfl
  · obtain ⟨_, _, rfl, _⟩ := hv; rfl
  · obtain ⟨_, _, rfl, _⟩ := hv; rfl
theorem omap_ok (henv : EnvR ρ σ env a.tmps) {x : Option Operand} : (∀ q, omapX env x = some q → ∃ u, x.map a.eval = some u ∧ VR ρ σ q u) ∧ (omapX env x = none → x.map a.eval = none) := by
  cases x with
  | none => exact ⟨(fun q h => by cases h), (fun _ => rfl)⟩
  | some x => exact ⟨(fun q h => by cases h; exact ⟨_, rfl, opv_ok henv x⟩), (fun h => by cases h)⟩
theorem happ_nil (M : Hp) : happ M [] = M := rfl
theorem xop_ok (hΓ : ∀ i op c b k, Γ i op c = some b → binInt op k (ρ i) k c = some (.bool b)) (hok : Ok ρ w σ M) (henv : EnvR ρ σ env a.tmps) (hfree : σ key = none) {e : Eff} (h : xop P Γ env M key o.op = some e) :
    Does P o a w fun v w' => Post ρ w σ M key e.val (happ M e.upd) v w' := by
  unfold xop at h
  split at h <;> (try (cases h; done)) <;> rename_i hop
  · rename_i x
    obtain rfl := Eff.pure_eq h
    exact .value (by simp only [execOp, hop]; rfl) (.same hok (opv_ok henv x))
  · rename_i x
    obtain rfl := Eff.pure_eq h
    exact .value (by simp only [execOp, hop]; rfl) (.same hok (opv_ok henv x))
  · rename_i c x y
    have hc := opv_ok henv c
    split at h <;> (try (cases h; done)) <;> rename_i hcv <;> obtain rfl := Eff.pure_eq h <;> rw [hcv] at hc <;> simp only [VR] at hc
    · exact .value (v := a.eval x) (w' := w) (by simp only [execOp, hop, hc, asBool]; rfl) (.same hok (opv_ok henv x))
    · exact .value (v := a.eval y) (w' := w) (by simp only [execOp, hop, hc, asBool]; rfl) (.same hok (opv_ok henv y))
  · rename_i t
    split at h <;> (try (cases h; done))
    rename_i zs hz
    cases h
    obtain ⟨r, w', h1, h2⟩ := alloc_ok (P := P) hok hfree hz
    exact .made (by simp only [execOp, hop]) h1 h2
  · rename_i t x
    split at h <;> (try (cases h; done))
    rename_i hp
    cases h
    obtain ⟨r, w', h1, h2⟩ := box_ok (P := P) (t := t) hok hfree hp (opv_ok henv x)
    exact .made (by simp only [execOp, hop]) h1 h2
  · rename_i t ps
    split at h <;> (try (cases h; done))
    rename_i v hv
    obtain rfl := Eff.pure_eq h
    obtain ⟨p1, p2⟩ := pairs_ok henv ps.toList
    obtain ⟨r, h1, h2⟩ := build_ok (w := w) hv p1 p2
    refine Does.pure hok (s := Instr.build t (ps.map fun (i, x) => (i, a.eval x))) (by simp only [execOp, hop]) ?_ h2
    exact (congrArg (fun z => Sem.run P (Instr.build t z) w) (by apply Array.ext'; simp)).trans h1
  · rename_i t len ps
    obtain ⟨p1, p2⟩ := pairs_ok henv ps.toList
    obtain ⟨r, w', h1, h2⟩ := buildSlice_ok (P := P) hok hfree h p1 p2
    refine .made (s := Instr.buildSlice t len (ps.map fun (i, x) => (i, a.eval x))) (by simp only [execOp, hop]) ?_ h2
    exact (congrArg (fun z => Sem.run P (Instr.buildSlice t len z) w) (by apply Array.ext'; simp)).trans h1
  · rename_i t x
    obtain ⟨r, h1, h2, h3⟩ := loadX_ok (P := P) hok h (opv_ok henv x)
    rw [h3, happ_nil]
    exact Does.pure hok (by simp only [execOp, hop]) h1 h2
  · rename_i t x y
    obtain ⟨w', h1, h2⟩ := storeX_ok (P := P) (key := key) hok h (opv_ok henv x) (opv_ok henv y)
    refine .skip (w' := w') ?_ h2
    simp only [execOp, hop, Sem.run_bind, h1, Result.andThen_ok, Sem.run_pure]
  · rename_i x
    split at h <;> (try (cases h; done))
    rename_i hn
    obtain rfl := Eff.pure_eq h
    exact .value (okNil_ok hn (opv_ok henv x) ⟨x, hop, rfl⟩) (.same hok (opv_ok henv x))
  · rename_i op t x y t'
    split at h <;> (try (cases h; done))
    rename_i v hv
    obtain rfl := Eff.pure_eq h
    obtain ⟨r, h1, h2⟩ := binX_ok (w := w) hΓ op t x y _ _ v _ _ hv (opv_ok henv x) (opv_ok henv y)
    exact Does.pure hok (by simp only [execOp, hop]) h1 h2
  · rename_i op t x
    split at h <;> (try (cases h; done))
    rename_i v hv
    obtain rfl := Eff.pure_eq h
    obtain ⟨r, h1, h2⟩ := unX_ok (P := P) (w := w) op _ v _ hv (opv_ok henv x)
    exact Does.pure hok (by simp only [execOp, hop]) h1 h2
  · rename_i s d x
    obtain ⟨r, w', h1, h2⟩ := conv_ok (P := P) hok hfree h (opv_ok henv x)
    exact .made (by simp only [execOp, hop]) h1 h2
  · rename_i f first caps
    obtain rfl := Eff.pure_eq h
    refine Does.pure hok (s := Instr.makeFunc f (first.map a.eval) (caps.map a.eval)) (by simp only [execOp, hop]) (r := .func f (first.map a.eval) (caps.map a.eval)) rfl ?_
    simp only [VR]
    exact ⟨_, _, rfl, by simpa using opvs_ok henv first.toList, by simpa using opvs_ok henv caps.toList⟩
  · rename_i t x
    split at h <;> (try (cases h; done))
    rename_i d hni hu
    obtain rfl := Eff.pure_eq h
    refine Does.pure hok (s := Instr.makeInterface t (a.eval x)) (by simp only [execOp, hop]) (r := .iface t (a.eval x)) ?_ ?_
    · simp only [Instr.makeInterface, Sem.run_bind, run_under hu, Result.andThen_ok]
      cases d <;> first | rfl | exact (hni _ rfl).elim
    · simp only [VR]
      exact ⟨_, rfl, opv_ok henv x⟩
  · rename_i t r
    have fin : ∀ {r : Option Operand}, (∀ v, r.map a.eval = some v → ∃ k n, v = .int k n) → (r.map a.eval = none ∨ ∃ x y, P.underlying t = some (.map x y)) → o.op = .makeMap t r → e = ⟨.mm key, [], [(key, some (.map [] 0))]⟩ → Does P o a w fun v w' => Post ρ w σ M key e.val (happ M e.upd) v w' := by
      rintro r g1 g2 hop rfl
      obtain ⟨v, w', h1, h2⟩ := makeMap_ok (P := P) hok hfree g1 g2
      exact .made (by simp only [execOp, hop]) h1 h2
    split at h <;> (try (cases h; done))
    · cases h
      exact fin (fun v h => by cases h) (.inl rfl) hop rfl
    · rename_i x k el hu
      split at h <;> (try (cases h; done))
      rename_i kk n hx
      cases h
      have hv := opv_ok henv x
      rw [hx] at hv
      simp only [VR] at hv
      exact fin (fun v h => by simp only [Option.map_some, Option.some.injEq] at h; exact ⟨_, _, by rw [← h, hv]⟩) (.inr ⟨_, _, hu⟩) hop rfl
  · rename_i t x y
    split at h <;> (try (cases h; done))
    rename_i l c hx hy
    have h1 := opv_ok henv x
    have h2 := opv_ok henv y
    rw [hx] at h1
    rw [hy] at h2
    simp only [VR] at h1 h2
    obtain ⟨r, w', g1, g2⟩ := makeSlice_ok (P := P) hok hfree h
    exact .made (s := Instr.makeSlice t (a.eval x) (a.eval y)) (by simp only [execOp, hop]) (by rw [h1, h2]; exact g1) g2
  · rename_i t x lo hi mx
    obtain ⟨r, h1, h2, h3⟩ := slice_ok (P := P) hok h (opv_ok henv x) (omap_ok henv).1 (omap_ok henv).2 (omap_ok henv).1 (omap_ok henv).2 (omap_ok henv).1 (omap_ok henv).2
    rw [h3, happ_nil]
    exact Does.pure hok (by simp only [execOp, hop]) h1 h2
  · rename_i s x f
    split at h <;> (try (cases h; done))
    rename_i v hv
    obtain rfl := Eff.pure_eq h
    obtain ⟨r, h1, h2⟩ := fieldAddr_ok (w := w) hv (opv_ok henv x)
    exact Does.pure hok (by simp only [execOp, hop]) h1 h2
  · rename_i s x f
    split at h <;> (try (cases h; done))
    rename_i v hv
    obtain rfl := Eff.pure_eq h
    obtain ⟨r, h1, h2⟩ := field_ok (w := w) hv (opv_ok henv x)
    exact Does.pure hok (by simp only [execOp, hop]) h1 h2
  · rename_i t x y
    split at h <;> (try (cases h; done))
    rename_i v hv
    obtain rfl := Eff.pure_eq h
    obtain ⟨r, h1, h2⟩ := indexAddr_ok (w := w) hv (opv_ok henv x) (opv_ok henv y)
    exact Does.pure hok (by simp only [execOp, hop]) h1 h2
  · rename_i t x y
    split at h <;> (try (cases h; done))
    rename_i v hv
    obtain rfl := Eff.pure_eq h
    obtain ⟨r, h1, h2⟩ := index_ok (w := w) hv (opv_ok henv x) (opv_ok henv y)
    exact Does.pure hok (by simp only [execOp, hop]) h1 h2
  · rename_i t x y ok
    obtain ⟨r, h1, h2, h3⟩ := lookup_ok (P := P) hok h (opv_ok henv x) (opv_ok henv y)
    rw [h3, happ_nil]
    exact Does.pure hok (by simp only [execOp, hop]) h1 h2
  · rename_i t m k x
    obtain ⟨w', h1, h2⟩ := mapUpd_ok (P := P) (key := key) hok h (opv_ok henv m) (opv_ok henv k) (opv_ok henv x)
    refine .skip (w' := w') ?_ h2
    simp only [execOp, hop, Sem.run_bind, h1, Result.andThen_ok, Sem.run_pure]
  · rename_i t m k x
    obtain ⟨w', h1, h2⟩ := mapUpd_ok (P := P) (key := key) hok h (opv_ok henv m) (opv_ok henv k) (opv_ok henv x)
    refine .skip (w' := w') ?_ h2
    simp only [execOp, hop, Sem.run_bind, h1, Result.andThen_ok, Sem.run_pure]
  · rename_i t m k
    obtain ⟨r, w', h1, h2⟩ := mapEnt_ok (P := P) (key := key) hok h (opv_ok henv m) (opv_ok henv k)
    exact .made (by simp only [execOp, hop]) h1 h2
  · rename_i t m s x
    obtain ⟨w', h1, h2⟩ := entSt_ok (P := P) (t := t) (key := key) hok h (opv_ok henv m) (opv_ok henv s) (opv_ok henv x)
    refine .skip (w' := w') ?_ h2
    simp only [execOp, hop, Sem.run_bind, h1, Result.andThen_ok, Sem.run_pure]
  · rename_i t x
    obtain ⟨r, w', h1, h2⟩ := range_ok (P := P) hok hfree h (opv_ok henv x)
    exact .made (by simp only [execOp, hop]) h1 h2
  · rename_i x
    obtain ⟨r, h1, h2⟩ := entry_ok (P := P) (key := key) hok h (opv_ok henv x)
    exact .made (by simp only [execOp, hop]) h1 h2
  · rename_i x i
    split at h <;> (try (cases h; done))
    rename_i vs hx
    split at h <;> (try (cases h; done))
    rename_i v hv
    obtain rfl := Eff.pure_eq h
    have hxv := opv_ok henv x
    rw [hx] at hxv
    simp only [VR] at hxv
    obtain ⟨us, hus, hxv⟩ := hxv
    obtain ⟨u, h1, h2⟩ := hxv.get hv
    have h1' : us[i]? = some u := by simpa using h1
    refine Does.pure hok (s := Instr.extract (a.eval x) i) (by simp only [execOp, hop]) (r := u) ?_ h2
    simp only [hus, Instr.extract, h1', Sem.run_pure]
  · rename_i c
    split at h <;> (try (cases h; done))
    rename_i b hcal
    have hargs := opvs_ok henv c.args.toList
    have hrun : ∀ (s : Sem Value), (∀ cs, builtin b c.argTypes o.type cs (c.args.map a.eval) = (s >>= fun v => Pure.pure (Next.value v))) →
        (execOp a.eval o).run P w = ((s >>= fun v => Pure.pure (Next.value v)) : Sem Next).run P w := fun s hs => by
      simp only [execOp, hop, resolve, hcal, pure_bind, invoke]
      exact congrArg (fun x => Sem.run P x w) (hs _)
    unfold builtinX at h
    split at h <;> (try (cases h; done))
    · rename_i t ts x hats hx
      rw [hx] at hargs
      simp only [VRs] at hargs
      obtain ⟨u, us', hus, hu, rfl⟩ := hargs
      obtain ⟨r, h1, h2, h3⟩ := len_ok (P := P) hok o.type h hu
      rw [h3, happ_nil]
      have hc : c.args.map a.eval = #[u] := by apply Array.ext'; simpa using hus
      refine Does.pure hok (hrun (Builtin.len_ c.argTypes o.type (c.args.map a.eval)) fun _ => rfl) (r := r) ?_ h2
      rw [hc]
      have e1 : c.argTypes[0]? = some t := by rw [← Array.getElem?_toList, hats]; rfl
      simp only [Builtin.len_, e1] at h1 ⊢
      exact h1
    · rename_i t t' s x hats hx
      split at h <;> (try (cases h; done)) <;> rename_i hu'
      all_goals
        rw [hx] at hargs
        simp only [VRs] at hargs
        obtain ⟨u, us', hus, hu, v, us2, rfl, hv, rfl⟩ := hargs
        have hc : c.args.map a.eval = #[u, v] := by apply Array.ext'; simpa using hus
        have ha : c.argTypes = #[t, t'] := by apply Array.ext'; simpa using hats
        obtain ⟨r, w', h1, h2⟩ := append_ok (P := P) hok hfree hu' (fun k h => by cases h) o.type h hu hv
        refine .made (hrun (Builtin.append_ c.argTypes o.type (c.args.map a.eval)) fun _ => rfl) (r := r) (w' := w') ?_ h2
        rw [hc, ha]
        exact h1
    · rename_i t ts d s hats hx
      rw [hx] at hargs
      simp only [VRs] at hargs
      obtain ⟨u, us', hus, hu, v, us2, rfl, hv, rfl⟩ := hargs
      have hc : c.args.map a.eval = #[u, v] := by apply Array.ext'; simpa using hus
      obtain ⟨r, w', h1, h2⟩ := copy_ok (P := P) (key := key) (t' := 0) hok o.type h hu hv
      refine .made (hrun (Builtin.copy_ c.argTypes o.type (c.args.map a.eval)) fun _ => rfl) (r := r) (w' := w') ?_ h2
      rw [hc]
      have e1 : c.argTypes[0]? = some t := by rw [← Array.getElem?_toList, hats]; rfl
      simp only [Builtin.copy_, e1] at h1 ⊢
      exact h1
    · rename_i t ts d hats hx
      rw [hx] at hargs
      simp only [VRs] at hargs
      obtain ⟨u, us', hus, hu, rfl⟩ := hargs
      have hc : c.args.map a.eval = #[u] := by apply Array.ext'; simpa using hus
      obtain ⟨r, w', h1, h2⟩ := clear_ok (P := P) (key := key) hok o.type h hu
      refine .made (hrun (Builtin.clear_ c.argTypes o.type (c.args.map a.eval)) fun _ => rfl) (r := r) (w' := w') ?_ h2
      rw [hc]
      have e1 : c.argTypes[0]? = some t := by rw [← Array.getElem?_toList, hats]; rfl
      simp only [Builtin.clear_, e1] at h1 ⊢
      exact h1
    · rename_i k n vs hx
      split at h <;> (try (cases h; done))
      rename_i m hm
      obtain rfl := Eff.pure_eq h
      rw [hx] at hargs
      simp only [VRs] at hargs
      obtain ⟨u, us', hus, hu, hv⟩ := hargs
      simp only [VR] at hu
      subst hu
      refine Does.pure hok (hrun (Builtin.min_ c.argTypes o.type (c.args.map a.eval)) fun _ => rfl) (r := .int k m) ?_ (by simp only [VR])
      have hc : (c.args.map a.eval).toList = .int k n :: us' := by simpa using hus
      simp only [Builtin.min_, hc]
      exact minInts_ok k vs us' n m hm hv
    · rename_i k n vs hx
      split at h <;> (try (cases h; done))
      rename_i m hm
      obtain rfl := Eff.pure_eq h
      rw [hx] at hargs
      simp only [VRs] at hargs
      obtain ⟨u, us', hus, hu, hv⟩ := hargs
      simp only [VR] at hu
      subst hu
      refine Does.pure hok (hrun (Builtin.max_ c.argTypes o.type (c.args.map a.eval)) fun _ => rfl) (r := .int k m) ?_ (by simp only [VR])
      have hc : (c.args.map a.eval).toList = .int k n :: us' := by simpa using hus
      simp only [Builtin.max_, hc]
      exact maxInts_ok k vs us' n m hm hv
end
end
end Go.Xn
/- What an operation does hangs on its operands and on the objects that it reads. -/
namespace Go.Xn
set_option linter.all false
set_option linter.deprecated false
noncomputable section
section
variable {P : Program} {M N : Hp} {key : Nat} {env env' : Env} {Γ : Facts}

def Agree (M N : Hp) (l : List Nat) : Prop := ∀ k ∈ l, tget N k = tget M k
theorem Agree.row {l : List Nat} (h : Agree M N l) {n : Nat} (hn : n ∈ l) : hrow N n = hrow M n := by simp only [hrow, h n hn]
theorem Agree.rd {l : List Nat} (h : Agree M N l) {n : Nat} (hn : n ∈ l) : hrd N n = hrd M n := by simp only [hrd, h n hn]
theorem Agree.of {l l' : List Nat} (h : Agree M N l) (hl : ∀ k ∈ l', k ∈ l) : Agree M N l' := fun k hk => h k (hl k hk)
theorem loadX_loc {t : Nat} {x : XV} {e : Eff} (h : loadX P M t x = some e) (hN : Agree M N e.rd) : loadX P N t x = some e := by
  unfold loadX at h ⊢
  split at h <;> (try (cases h; done))
  split at h <;> (try (cases h; done))
  rename_i cs hm
  split at h <;> (try (cases h; done))
  rename_i v hv
  cases h
  rw [hN.rd (by simp), hm]
  simp only [hv]
theorem storeX_loc {t : Nat} {x y : XV} {e : Eff} (h : storeX P M t x y = some e) (hN : Agree M N e.rd) : storeX P N t x y = some e := by
  unfold storeX at h ⊢
  split at h <;> (try (cases h; done))
  split at h <;> (try (cases h; done))
  rename_i cs sz hm hsz
  split at h <;> (try (cases h; done))
  rename_i h1 h2 h3
  cases h
  rw [hN.row (by simp), hm, hsz]
  simp only [h1, h2, h3]
theorem elemsX_loc {sz : Nat} {x : XV} {r : List XV × Nat × List Nat} (h : elemsX M sz x = some r) (hN : Agree M N r.2.2) : elemsX N sz x = some r := by
  unfold elemsX at h ⊢
  split at h <;> (try (cases h; done))
  · cases h; rfl
  · split at h <;> (try (cases h; done))
    rename_i cs hm he
    split at h <;> (try (cases h; done))
    rename_i hl
    cases h
    rw [hN.rd (by simp), hm, he]
    simp only [hl]
  · exact h
theorem appendX_loc {t : Nat} {s x : XV} {e : Eff} (h : appendX P M key t s x = some e) (hN : Agree M N e.rd) : appendX P N key t s x = some e := by
  unfold appendX at h ⊢
  split at h <;> (try (cases h; done))
  split at h <;> (try (cases h; done))
  split at h <;> (try (cases h; done))
  rename_i ys n r h1 h2 h3 hel
  split at h <;> (try (cases h; done))
  · rename_i g1 g2
    have hr : e.rd = r := by
      cases n with
      | zero => simp only [Option.some.injEq] at h; subst h; rfl
      | succ n => simp only [Option.some.injEq] at h; subst h; rfl
    have := elemsX_loc hel (by rw [hr] at hN; exact hN)
    simp only [h1, h2, h3, this, g1, g2]
    exact h
  · rename_i k esz off len cap g1 g2
    split at h <;> (try (cases h; done))
    rename_i rows hm he
    have hk : k ∈ e.rd ∧ ∀ j ∈ r, j ∈ e.rd := by
      split at h
      · split at h <;> (try (cases h; done))
        cases h
        exact ⟨List.mem_cons_self, fun j hj => List.mem_cons_of_mem _ hj⟩
      · split at h <;> (try (cases h; done))
        cases h
        exact ⟨List.mem_cons_self, fun j hj => List.mem_cons_of_mem _ hj⟩
    have := elemsX_loc hel (hN.of hk.2)
    simp only [h1, h2, h3, this, g1, g2, hN.row hk.1, hm, he]
    exact h
theorem copyX_loc {t : Nat} {d s : XV} {e : Eff} (h : copyX P M t d s = some e) (hN : Agree M N e.rd) : copyX P N t d s = some e := by
  unfold copyX at h ⊢
  split at h <;> (try (cases h; done))
  split at h <;> (try (cases h; done))
  split at h <;> (try (cases h; done))
  rename_i ys n r hel
  split at h <;> (try (cases h; done))
  · cases h
    simp only [elemsX_loc hel hN]
  · rename_i k esz off len cap
    split at h <;> (try (cases h; done))
    rename_i rows hm he
    split at h <;> (try (cases h; done))
    rename_i g1 g2
    cases h
    simp only [elemsX_loc hel (hN.of fun j hj => List.mem_cons_of_mem _ hj), hN.row List.mem_cons_self, hm, he, g1, g2]
theorem clearX_loc {t : Nat} {d : XV} {e : Eff} (h : clearX P M t d = some e) (hN : Agree M N e.rd) : clearX P N t d = some e := by
  unfold clearX at h ⊢
  split at h <;> (try (cases h; done))
  split at h <;> (try (cases h; done))
  · exact h
  · split at h <;> (try (cases h; done))
    rename_i rows hm he hz
    split at h <;> (try (cases h; done))
    rename_i g1 g2
    cases h
    simp only [hN.row List.mem_cons_self, hm, he, hz, g1, g2]
theorem lenX_loc {t : Nat} {x : XV} {e : Eff} (h : lenX P M t x = some e) (hN : Agree M N e.rd) : lenX P N t x = some e := by
  unfold lenX at h ⊢
  split at h <;> (try (cases h; done))
  · exact h
  · exact h
  · exact h
  · exact h
  · split at h <;> (try (cases h; done))
    rename_i hm
    cases h
    simp only [hN _ List.mem_cons_self, hm]
theorem sliceX_loc {t : Nat} {x : XV} {lo hi mx : Option XV} {e : Eff} (h : sliceX P M t x lo hi mx = some e) (hN : Agree M N e.rd) : sliceX P N t x lo hi mx = some e := by
  unfold sliceX at h ⊢
  split at h <;> (try (cases h; done))
  · exact h
  · exact h
  · exact h
  · split at h <;> (try (cases h; done))
    split at h <;> (try (cases h; done))
    rename_i hh hsz hm
    split at h <;> (try (cases h; done))
    rename_i g1 g2 g3 g4
    cases h
    simp only [hN.rd List.mem_cons_self, hh, hsz, hm, g1, g2, g3, g4]
theorem convX_loc {s d : Nat} {x : XV} {e : Eff} (h : convX P key M s d x = some e) (hN : Agree M N e.rd) : convX P key N s d x = some e := by
  unfold convX at h ⊢
  split at h <;> (try (cases h; done))
  · exact h
  · exact h
  · exact h
  · split at h <;> (try (cases h; done))
    split at h <;> (try (cases h; done))
    rename_i cs n r hel
    split at h <;> (try (cases h; done))
    rename_i s hbs hns _
    split at h <;> (try (cases h; done))
    rename_i hb
    cases h
    simp only [elemsX_loc hel hN, hbs, hb]
theorem findIn_loc {kt : Nat} {ix x : XV} {r : Option XV × List Nat} (h : findIn P M kt ix x = some r) (hN : Agree M N r.2) : findIn P N kt ix x = some r := by
  unfold findIn at h ⊢
  split at h <;> (try (cases h; done))
  · exact h
  · split at h <;> (try (cases h; done))
    rename_i es clock hm
    split at h <;> (try (cases h; done)) <;> rename_i hf <;> cases h <;> simp only [hN _ List.mem_cons_self, hm, hf]
theorem lookupX_loc {t : Nat} {x ix : XV} {ok : Bool} {e : Eff} (h : lookupX P M t x ix ok = some e) (hN : Agree M N e.rd) : lookupX P N t x ix ok = some e := by
  unfold lookupX at h ⊢
  split at h <;> (try (cases h; done))
  split at h <;> (try (cases h; done)) <;> rename_i hk hz hf <;> cases h <;> simp only [hk, hz, findIn_loc hf hN]
theorem mapUpdX_loc {t : Nat} {m ix v : XV} {e : Eff} (h : mapUpdX P M t m ix v = some e) (hN : Agree M N e.rd) : mapUpdX P N t m ix v = some e := by
  unfold mapUpdX at h ⊢
  split at h <;> (try (cases h; done))
  split at h <;> (try (cases h; done))
  rename_i hk hm
  split at h <;> (try (cases h; done)) <;> rename_i hf <;> cases h <;> simp only [hk, hN _ List.mem_cons_self, hm, hf]
theorem mapEntX_loc {t : Nat} {m ix : XV} {e : Eff} (h : mapEntX P M t m ix = some e) (hN : Agree M N e.rd) : mapEntX P N t m ix = some e := by
  unfold mapEntX at h ⊢
  split at h <;> (try (cases h; done))
  split at h <;> (try (cases h; done))
  rename_i hk hm hz
  split at h <;> (try (cases h; done)) <;> rename_i hf
  · split at h <;> (try (cases h; done))
    rename_i hj
    cases h
    simp only [hk, hN _ List.mem_cons_self, hm, hz, hf, hj]
  · cases h
    simp only [hk, hN _ List.mem_cons_self, hm, hz, hf]
theorem entStX_loc {m st v : XV} {e : Eff} (h : entStX M m st v = some e) (hN : Agree M N e.rd) : entStX N m st v = some e := by
  unfold entStX at h ⊢
  split at h <;> (try (cases h; done))
  split at h <;> (try (cases h; done))
  rename_i hm
  split at h <;> (try (cases h; done))
  rename_i hi
  cases h
  simp only [hN _ List.mem_cons_self, hm, hi]
theorem rangeX_loc {t : Nat} {x : XV} {e : Eff} (h : rangeX P M key t x = some e) (hN : Agree M N e.rd) : rangeX P N key t x = some e := by
  unfold rangeX at h ⊢
  split at h <;> (try (cases h; done))
  · exact h
  · split at h <;> (try (cases h; done))
    rename_i hm
    cases h
    simp only [hN _ List.mem_cons_self, hm]
theorem entryX_loc {x : XV} {e : Eff} (h : entryX M x = some e) (hN : Agree M N e.rd) : entryX N x = some e := by
  unfold entryX at h ⊢
  split at h <;> (try (cases h; done))
  split at h <;> (try (cases h; done))
  rename_i hm
  split at h <;> (try (cases h; done))
  rename_i hmm
  split at h <;> (try (cases h; done))
  rename_i hb hc
  split at h <;> (try (cases h; done))
  rename_i hf
  cases h
  simp only [hN _ List.mem_cons_self, hm, hN _ (List.mem_cons_of_mem _ List.mem_cons_self), hmm, hb, hc, hf]
theorem xop_loc {o : Op} {e : Eff} (h : xop P Γ env M key o = some e) (hN : Agree M N e.rd) : xop P Γ env N key o = some e := by
  unfold xop at h ⊢
  split at h <;> (try (cases h; done)) <;> first
    | exact h
    | exact loadX_loc h hN
    | exact storeX_loc h hN
    | exact convX_loc h hN
    | exact sliceX_loc h hN
    | exact lookupX_loc h hN
    | exact mapUpdX_loc h hN
    | exact mapEntX_loc h hN
    | exact entStX_loc h hN
    | exact rangeX_loc h hN
    | exact entryX_loc h hN
    | skip
  split at h <;> (try (cases h; done))
  unfold builtinX at h ⊢
  split at h <;> (try (cases h; done))
  · exact lenX_loc h hN
  · split at h <;> (try (cases h; done))
    · exact appendX_loc h hN
    · exact appendX_loc h hN
  · exact copyX_loc h hN
  · exact clearX_loc h hN
  · exact h
  · exact h
/-! ### operands -/
def calleeX (env : Env) (c : Call) : Option (Nat × List XV) := match c.callee with
  | .value f => match opv env f with
    | .fn (.func g) first caps => some (g, first ++ opvs env c.args.toList ++ caps)
    | _ => none
  | _ => none
def opnds : Op → List Operand
  | .move x | .assign x | .box _ x | .load _ x | .nilCheck x | .unOp _ _ x | .convert _ _ x | .makeInterface _ x | .fieldAddr _ x _ | .field _ x _ | .range _ x | .next x _ | .entry x | .extract x _ => [x]
  | .pick c a b => [c, a, b]
  | .build _ ps | .buildSlice _ _ ps => ps.toList.map (·.2)
  | .store _ a v | .binOp _ _ a v _ | .makeSlice _ a v | .indexAddr _ a v | .index _ a v | .lookup _ a v _ | .mapEntry _ a v => [a, v]
  | .makeFunc _ first captured => first.toList ++ captured.toList
  | .makeMap _ r => r.toList
  | .slice _ x l h m => x :: (l.toList ++ h.toList ++ m.toList)
  | .mapUpdate _ m k v | .entryStore _ m k v | .insert _ m k v => [m, k, v]
  | .call c => (match c.callee with | .value f => [f] | _ => []) ++ c.args.toList
  | _ => []
theorem opvs_env {l : List Operand} (h : ∀ x ∈ l, opv env' x = opv env x) : opvs env' l = opvs env l := by
  induction l with
  | nil => rfl
  | cons x l ih =>
    simp only [opvs, h x List.mem_cons_self, ih fun y hy => h y (List.mem_cons_of_mem _ hy)]
theorem pairsX_env {l : List (Nat × Operand)} (h : ∀ x ∈ l.map (·.2), opv env' x = opv env x) : pairsX env' l = pairsX env l := by
  induction l with
  | nil => rfl
  | cons p l ih =>
    obtain ⟨i, x⟩ := p
    simp only [pairsX, h x (by simp), ih fun y hy => h y (by simp at hy ⊢; exact .inr hy)]
theorem omapX_env {x : Option Operand} (h : ∀ y ∈ x.toList, opv env' y = opv env y) : omapX env' x = omapX env x := by
  cases x with
  | none => rfl
  | some x => simp only [omapX, h x (by simp)]
theorem xop_env {o : Op} (h : ∀ x ∈ opnds o, opv env' x = opv env x) : xop P Γ env' M key o = xop P Γ env M key o := by
  unfold xop
  cases o <;> simp only [opnds] at h <;> (try rfl)
  case move x => simp only [h x (by simp)]
  case assign x => simp only [h x (by simp)]
  case pick c a b => simp only [h c (by simp), h a (by simp), h b (by simp)]
  case box t x => simp only [h x (by simp)]
  case build t ps => simp only [pairsX_env h]
  case buildSlice t l ps => simp only [pairsX_env h]
  case load t x => simp only [h x (by simp)]
  case store t x y => simp only [h x (by simp), h y (by simp)]
  case nilCheck x => simp only [h x (by simp)]
  case binOp op t x y t' => simp only [h x (by simp), h y (by simp)]
  case unOp op t x => simp only [h x (by simp)]
  case convert s d x => simp only [h x (by simp)]
  case makeInterface t x => simp only [h x (by simp)]
  case makeFunc f a b => simp only [opvs_env (l := a.toList) fun x hx => h x (List.mem_append_left _ hx), opvs_env (l := b.toList) fun x hx => h x (List.mem_append_right _ hx)]
  case makeMap t r =>
    cases r with
    | none => rfl
    | some r =>
      cases hu : P.underlying t with
      | none => simp only [hu]
      | some d => cases d <;> simp only [hu, h r (by simp)]
  case makeSlice t x y => simp only [h x (by simp), h y (by simp)]
  case slice t x l hi mx => simp only [h x (by simp), omapX_env (x := l) fun y hy => h y (by simp [hy]), omapX_env (x := hi) fun y hy => h y (by simp [hy]), omapX_env (x := mx) fun y hy => h y (by simp [hy])]
  case fieldAddr s x f => simp only [h x (by simp)]
  case field s x f => simp only [h x (by simp)]
  case indexAddr t x y => simp only [h x (by simp), h y (by simp)]
  case index t x y => simp only [h x (by simp), h y (by simp)]
  case lookup t x y ok => simp only [h x (by simp), h y (by simp)]
  case mapUpdate t x y z => simp only [h x (by simp), h y (by simp), h z (by simp)]
  case insert t x y z => simp only [h x (by simp), h y (by simp), h z (by simp)]
  case mapEntry t x y => simp only [h x (by simp), h y (by simp)]
  case entryStore t x y z => simp only [h x (by simp), h y (by simp), h z (by simp)]
  case range t x => simp only [h x (by simp)]
  case entry x => simp only [h x (by simp)]
  case extract x i => simp only [h x (by simp)]
  case call c => simp only [opvs_env (l := c.args.toList) fun x hx => h x (List.mem_append_right _ hx)]
theorem calleeX_env {c : Call} (h : ∀ x ∈ opnds (.call c), opv env' x = opv env x) : calleeX env' c = calleeX env c := by
  simp only [opnds] at h
  unfold calleeX
  cases hc : c.callee with
  | value f =>
    rw [hc] at h
    simp only [h f (by simp), opvs_env (l := c.args.toList) fun x hx => h x (List.mem_append_right _ hx)]
  | _ => rfl
end
end
end Go.Xn
/- Frames in a round of a range over a function; blocks that are not the numbered objects'. -/
namespace Go.Xn
set_option linter.all false
set_option linter.deprecated false
noncomputable section
def FW : Option Nat → Fence
  | none => Fence.wide
  | some l => Fence.wide.inRound l
theorem FW_fn (fr : Option Nat) (f : FuncId) : (FW fr).fn f := by cases fr <;> exact trivial
theorem FW_round (fr : Option Nat) : (FW fr).round = fr := by cases fr <;> rfl
theorem FW_depth (fr : Option Nat) : (FW fr).depth = none := by cases fr <;> rfl
theorem FW_in (fr : Option Nat) (l : Nat) : (FW fr).inRound l = FW (some l) := by cases fr <;> rfl
theorem FW_fenced (fr : Option Nat) (P : Program) : Machine.fenced P (FW fr) = Machine.fenced P Fence.wide := by cases fr <;> rfl
theorem FW_calls {fr : Option Nat} {n : Nat} {P : Program} {f : FuncId} {args : Array Value} {w : World} {R : Ending → World → Prop} (h : Calls P f args w R) : CallsIn (FW fr) n P f args w R := by
  cases fr with
  | none => exact callsIn_wide.2 h
  | some l => exact (callsIn_wide (n := n)).2 h
theorem FW_calls' {fr : Option Nat} {n : Nat} {P : Program} {f : FuncId} {args : Array Value} {w : World} {R : Ending → World → Prop} (h : CallsIn (FW none) n P f args w R) : CallsIn (FW fr) n P f args w R := FW_calls ((callsIn_wide (n := n)).1 h)
theorem FW_rows {fr : Option Nat} {n : Nat} {P : Program} {row : String} {args : Array Value} {w : World} {R : Value → World → Prop} (h : Rows P row args w R) : RowsIn (FW fr) n P row args w R := by
  intro c cs _
  obtain ⟨v, w', r, s⟩ := h c cs
  refine ⟨v, w', r, ?_⟩
  rw [FW_fenced]
  exact stepsIn_wide.2 s
section
variable {P : Program} {o : Oper} {a : Act} {w w' w0 : World} {ρ : Rho} {σ σ' σ0 : Sig} {M M' M0 : Hp} {key nx nx0 n : Nat} {env : Env} {Γ : Facts} {fr : Option Nat}
theorem opIn {K : Act → World → Prop} {Q : Exit → Act → World → Prop} (hd : ∀ c, o.op ≠ .defer c) (h : o.wp P a w K Q) : o.wpIn (FW fr) 0 P a w K Q := by
  refine ⟨fun f _ => FW_fn fr f, ?_⟩
  rw [FW_round, Oper.semAt_eq fr a.eval o hd]
  unfold Oper.wp at h
  revert h
  cases (execOp a.eval o).run P w with
  | ok v w' =>
    cases v <;> intro h <;> first | exact h | exact h.elim | skip
    · exact ⟨fun q => (by rw [FW_depth] at q; cases q), FW_calls h⟩
    · exact ⟨fun q => (by rw [FW_depth] at q; cases q), FW_rows h⟩
  | halt h w' => cases h <;> intro q <;> first | exact q | exact q.elim
theorem xop_nd {o : Op} {e : Eff} (h : xop P Γ env M key o = some e) : ∀ c, o ≠ .defer c := by
  intro c hc; subst hc; simp [xop] at h
/-- a block that is not the numbered objects' -/
structure Frn (w : World) (σ : Sig) (M : Hp) (b : Nat) (o : Obj) : Prop where
  here : w.heap[b]? = some o
  own : ¬ Owned σ M b
theorem Frn.lt {b : Nat} {o : Obj} (h : Frn w σ M b o) : b < w.heap.size := (Array.getElem?_eq_some_iff.1 h.here).1
theorem Frn.ext {b : Nat} {o : Obj} (h : Frn w σ M b o) (e : Ext w σ M w' σ' M') : Frn w' σ' M' b o := by
  refine ⟨by rw [e.blk b h.lt h.own]; exact h.here, fun q => ?_⟩
  rcases e.own b q with q | q
  · exact h.own q
  · exact absurd h.lt (by omega)
theorem Frn.put {b : Nat} {o o' : Obj} (h : Frn w σ M b o) : Frn (w.putObj b o') σ M b o' := ⟨World.putObj_heap_same h.lt, h.own⟩
theorem Frn.side {b : Nat} {o : Obj} (h : Frn w σ M b o) (hb : w'.heap[b]? = w.heap[b]?) : Frn w' σ M b o := ⟨hb.trans h.here, h.own⟩
theorem Frn.new (hok : Ok ρ w σ M) (o : Obj) : Frn (w.alloc o) σ M w.heap.size o :=
  ⟨World.alloc_heap_new w o, fun h => absurd (h.lt hok) (by omega)⟩
def celled : Obj → Bool
  | .cells .. => true
  | _ => false
/-- another block turns, or is laid -/
structure Side (w : World) (σ : Sig) (M : Hp) (w' : World) : Prop where
  os : w'.os = w.os
  tape : w'.tape = w.tape
  output : w'.output = w.output
  size : w.heap.size ≤ w'.heap.size
  blk : ∀ b, Owned σ M b → w'.heap[b]? = w.heap[b]?
  cel : ∀ (b : Nat) (o : Obj), w.heap[b]? = some o → celled o = true → w'.heap[b]? = w.heap[b]?
theorem Side.ok (h : Side w σ M w') (hok : Ok ρ w σ M) : Ok ρ w' σ M := by
  refine ⟨fun k o hk => ?_, hok.inj, fun b x hb => ?_⟩
  · obtain ⟨p, hp, ho⟩ := hok.obj k o hk
    refine ⟨p, hp, OR.mono (fun _ _ h => h) ?_ ho⟩
    cases hm : muts o with
    | true => exact h.blk _ ⟨k, o, p, hk, hp, rfl, hm⟩
    | false =>
      cases o with
      | cst cs =>
        obtain ⟨us, t, fz, h1, _⟩ := ho
        exact h.cel _ _ h1 rfl
      | row _ => cases hm
      | map _ _ => cases hm
      | iter _ _ _ _ => cases hm
  · obtain ⟨h1, h2⟩ := hok.fix b x hb
    exact ⟨(h.cel _ _ h1 rfl).trans h1, h2⟩
theorem Side.ext (h : Side w σ M w') (e : Ext w0 σ0 M0 w σ M) (hb : ∀ b, b < w0.heap.size → ¬ Owned σ0 M0 b → w'.heap[b]? = w.heap[b]?) : Ext w0 σ0 M0 w' σ M :=
  ⟨h.os.trans e.os, h.tape.trans e.tape, h.output.trans e.output, Nat.le_trans e.size h.size, fun b h1 h2 => (hb b h1 h2).trans (e.blk b h1 h2), e.own, e.sig, e.held⟩
theorem Side.alloc (hok : Ok ρ w σ M) (o : Obj) : Side w σ M (w.alloc o) := by
  have old : ∀ b, b < w.heap.size → (w.alloc o).heap[b]? = w.heap[b]? := fun b hb => by
    show (w.heap.push o)[b]? = _
    rw [Array.getElem?_push, if_neg (by omega)]
  refine ⟨rfl, rfl, rfl, by show _ ≤ (w.heap.push o).size; simp, fun b hb => old b (hb.lt hok), fun b x hx _ => old b (Array.getElem?_eq_some_iff.1 hx).1⟩
theorem Side.putObj {b : Nat} {o : Obj} (h : Frn w σ M b o) (hc : celled o = false) (o' : Obj) : Side w σ M (w.putObj b o') :=
  ⟨rfl, rfl, rfl, by simp, fun c hc => World.putObj_heap_other fun e => h.own (e ▸ hc), fun c x hx hx' => World.putObj_heap_other fun e => by
    subst e
    rw [h.here] at hx
    cases hx
    rw [hc] at hx'
    cases hx'⟩
theorem Side.trans {w'' : World} (h : Side w σ M w') (k : Side w' σ M w'') : Side w σ M w'' :=
  ⟨k.os.trans h.os, k.tape.trans h.tape, k.output.trans h.output, Nat.le_trans h.size k.size, fun b hb => (k.blk b hb).trans (h.blk b hb), fun b o ho hc => by
    have e := h.cel b o ho hc
    exact (k.cel b o (e.trans ho) hc).trans e⟩
/-- what a round does -/
abbrev YH := List XV → Hp → Nat → Option (List (Hp × Nat))
def HdOk (P : Program) (ρ : Rho) (w0 : World) (σ0 : Sig) (M0 : Hp) (nx0 : Nat) (l : Nat) (rec : Loop) (H : YH) : Prop :=
  ∀ args M nx L, H args M nx = some L → ∀ w σ us, Ok ρ w σ M → (∀ k, nx ≤ k → σ k = none) → Ext w0 σ0 M0 w σ M → nx0 ≤ nx → VRs ρ σ args us →
    us.length = rec.params.size ∧ ∀ fr, RoundIn (FW fr) 0 P l rec.fn ((rec.params.zip us.toArray).foldl (fun tmps (t, a) => tmps.setIfInBounds t a) rec.tmps) rec.assign rec.body w
      fun e w' => e = .returned (.bool true) ∧ ∃ r ∈ L, ∃ σ', Ok ρ w' σ' r.1 ∧ Ext w σ M w' σ' r.1 ∧ nx ≤ r.2 ∧ ∀ k, σ' k = σ k ∨ (nx ≤ k ∧ k < r.2)
def YOk (P : Program) (ρ : Rho) (w0 : World) (σ0 : Sig) (M0 : Hp) (nx0 : Nat) : Option (Nat × YH) → Prop
  | none => True
  | some (k, H) => ∃ l rec room, σ0 k = some (l, room) ∧ Frn w0 σ0 M0 l (.loop rec) ∧ HdOk P ρ w0 σ0 M0 nx0 l rec H
end
end
end Go.Xn
/- Calls by a function; regions in the order of the text. -/
namespace Go.Xn
set_option linter.all false
set_option linter.deprecated false
noncomputable section

abbrev Out := XV × Hp × Nat
abbrev CallF := Nat → List XV → Hp → Nat → Option (List Out)
def collect {α β : Type} : List α → (α → Option (List β)) → Option (List β)
  | [], _ => some []
  | [x], f => f x
  | x :: y :: xs, f => match f x with
    | none => none
    | some a => match collect (y :: xs) f with
      | none => none
      | some b => some (a ++ b)
theorem collect_ok {α β : Type} {f : α → Option (List β)} : ∀ {L : List α} {R : List β}, collect L f = some R → ∀ x ∈ L, ∃ a, f x = some a ∧ ∀ y ∈ a, y ∈ R
  | [], _, _, x, hx => by cases hx
  | [y], R, h, x, hx => by
    rw [List.mem_singleton] at hx
    subst hx
    exact ⟨R, h, fun _ h => h⟩
  | y :: z :: xs, R, h, x, hx => by
    simp only [collect] at h
    split at h <;> (try (cases h; done))
    rename_i a ha
    split at h <;> (try (cases h; done))
    rename_i b hb
    cases h
    rcases List.mem_cons.1 hx with rfl | hx
    · exact ⟨a, ha, fun y hy => List.mem_append_left _ hy⟩
    · obtain ⟨c, h1, h2⟩ := collect_ok hb x hx
      exact ⟨c, h1, fun y hy => List.mem_append_right _ (h2 y hy)⟩
def putX (n : Nat) (env : Env) : Option Nat → XV → Option Env
  | none, _ => some env
  | some d, v => match Nat.blt d n with | true => some (tset env d v) | false => none
def slotX (all : List Oper) (j : Nat) : Option Nat := match all[j]? with | some o => o.dst | none => none
def guardX (all : List Oper) (env : Env) : Option (Nat × Bool) → Option Bool
  | none => some true
  | some (j, want) => match slotX all j with
    | none => none
    | some d => match tget env d with
      | some (.bool b) => some (b == want)
      | some .udf => some false
      | _ => none
def yldX (env : Env) (c : Call) : Option (Nat × List XV) := match c.callee with
  | .value f => match opv env f with
    | .yd k => some (k, opvs env c.args.toList)
    | _ => none
  | _ => none
/-- an operation, in the order of the text -/
def opN (P : Program) (Γ : Facts) (call : CallF) (Y : Option (Nat × YH)) (env : Env) (M : Hp) (nx : Nat) (o : Op) : Option (List Out) :=
  match xop P Γ env M nx o with
  | some e => some [(e.val, happ M e.upd, nx + 1)]
  | none => match o with
    | .call c => match calleeX env c with
      | some (g, args) => call g args M nx
      | none => match yldX env c, Y with
        | some (k, args), some (k', H) => match Nat.beq k k', H args M nx with
          | true, some L => some (L.map fun r => (.bool true, r.1, r.2))
          | _, _ => none
        | _, _ => none
    | .next it false => match nextX M (opv env it) with
      | some L => some (L.map fun e => (e.val, happ M e.upd, nx + 1))
      | none => none
    | _ => none
structure XS where
  env : Env
  M : Hp
  nx : Nat
def regN (P : Program) (Γ : Facts) (call : CallF) (Y : Option (Nat × YH)) (n : Nat) (all : List Oper) : List Oper → XS → Option (List XS)
  | [], s => some [s]
  | o :: os, s => match guardX all s.env o.guard with
    | none => none
    | some false => match putX n s.env o.dst .udf with
      | some env => regN P Γ call Y n all os ⟨env, s.M, s.nx⟩
      | none => none
    | some true => match opN P Γ call Y s.env s.M s.nx o.op with
      | none => none
      | some L => collect L fun r => match putX n s.env o.dst r.1 with
        | some env => regN P Γ call Y n all os ⟨env, r.2.1, r.2.2⟩
        | none => none
section
variable {P : Program} {o : Oper} {a : Act} {w w' w0 : World} {ρ : Rho} {σ σ' σ0 : Sig} {M M' M0 : Hp} {key nx nx0 n : Nat} {env : Env} {Γ : Facts} {call : CallF} {ds : List Deferred} {Y : Option (Nat × YH)} {fr : Option Nat}
/-- what follows a call -/
def CPost (ρ : Rho) (w : World) (σ : Sig) (M : Hp) (nx : Nat) (r : Out) (v : Value) (w' : World) : Prop :=
  ∃ σ', VR ρ σ' r.1 v ∧ Ok ρ w' σ' r.2.1 ∧ Ext w σ M w' σ' r.2.1 ∧ nx ≤ r.2.2 ∧ ∀ k, σ' k = σ k ∨ (nx ≤ k ∧ k < r.2.2)
def CallOk (P : Program) (ρ : Rho) (call : CallF) : Prop :=
  ∀ g args M nx L, call g args M nx = some L → ∀ (w : World) (σ : Sig) (vs : List Value), Ok ρ w σ M → (∀ k, nx ≤ k → σ k = none) → VRs ρ σ args vs →
    ∀ (o : Oper) (a : Act) (K : Act → World → Prop) (Q : Exit → Act → World → Prop), (∀ v w', (∃ r ∈ L, CPost ρ w σ M nx r v w') → K (a.put o.dst v) w') → o.upon P a K Q ((callFunc g vs.toArray).run P w)
theorem CPost.of (hfree : ∀ k, nx ≤ k → σ k = none) {val : XV} {N : Hp} {v : Value} (h : Post ρ w σ M nx val N v w') : CPost ρ w σ M nx (val, N, nx + 1) v w' := by
  obtain ⟨σ', h1, h2, h3, h4⟩ := h
  exact ⟨σ', h1, h2, h3, Nat.le_succ _, fun k => (h4 k).imp id fun e => by subst e; exact ⟨Nat.le_refl _, Nat.lt_succ_self _⟩⟩
theorem callee_run {c : Call} {g : Nat} {args : List XV} (henv : EnvR ρ σ env a.tmps) (hop : o.op = .call c) (h : calleeX env c = some (g, args)) :
    ∃ vs, VRs ρ σ args vs ∧ (execOp a.eval o).run P w = (callFunc g vs.toArray).run P w := by
  unfold calleeX at h
  split at h <;> (try (cases h; done))
  rename_i f hcal
  split at h <;> (try (cases h; done))
  rename_i first caps hf
  cases h
  have hfv := opv_ok henv f
  rw [hf] at hfv
  simp only [VR] at hfv
  obtain ⟨us, us', hus, h1, h2⟩ := hfv
  refine ⟨us.toList ++ c.args.toList.map a.eval ++ us'.toList, (h1.append (opvs_ok henv _)).append h2, ?_⟩
  simp only [execOp, hop, resolve, hcal, hus, Deferred.ofValue, pure_bind, invoke]
  congr 2
  apply Array.ext'
  simp
theorem yldX_run {c : Call} {k : Nat} {args : List XV} (henv : EnvR ρ σ env a.tmps) (hop : o.op = .call c) (h : yldX env c = some (k, args)) :
    ∃ (us : List Value) (b room : Nat), σ k = some (b, room) ∧ VRs ρ σ args us ∧ (execOp a.eval o).run P w = (Instr.yield b us.toArray).run P w := by
  unfold yldX at h
  split at h <;> (try (cases h; done))
  rename_i f hcal
  split at h <;> (try (cases h; done))
  rename_i hf
  cases h
  have hfv := opv_ok henv f
  rw [hf] at hfv
  simp only [VR] at hfv
  obtain ⟨b, room, hs, hus⟩ := hfv
  refine ⟨c.args.toList.map a.eval, b, room, hs, opvs_ok henv _, ?_⟩
  simp only [execOp, hop, resolve, hcal, hus, Deferred.ofValue, pure_bind, invoke]
  congr 2
  apply Array.ext'
  simp
theorem opN_ok (hΓ : ∀ i op c b k, Γ i op c = some b → binInt op k (ρ i) k c = some (.bool b)) (hcall : CallOk P ρ call) (hY : YOk P ρ w0 σ0 M0 nx0 Y) (hok : Ok ρ w σ M) (henv : EnvR ρ σ env a.tmps) (hfree : ∀ k, nx ≤ k → σ k = none) (hext : Ext w0 σ0 M0 w σ M) (hle : nx0 ≤ nx) {L : List Out} (h : opN P Γ call Y env M nx o.op = some L)
    (K : Act → World → Prop) (Q : Exit → Act → World → Prop) (hK : ∀ v w', (∃ r ∈ L, CPost ρ w σ M nx r v w') → K (a.put o.dst v) w') : o.wpIn (FW fr) 0 P a w K Q := by
  unfold opN at h
  split at h
  · rename_i e he
    cases h
    exact opIn (xop_nd he) (xop_ok hΓ hok henv (hfree nx (Nat.le_refl _)) he K Q fun v w' hp => hK v w' ⟨_, List.mem_singleton.2 rfl, .of hfree hp⟩)
  · split at h <;> (try (cases h; done)) <;> rename_i hop
    · rename_i c
      split at h
      · rename_i g args hc
        obtain ⟨vs, h1, h2⟩ := callee_run (P := P) (w := w) henv hop hc
        refine opIn (fun c' hc' => by rw [hop] at hc'; cases hc') ?_
        unfold Oper.wp
        rw [h2]
        exact hcall g args M nx L h w σ vs hok hfree h1 o a K Q hK
      · split at h <;> (try (cases h; done))
        rename_i k args k' H hy
        split at h <;> (try (cases h; done))
        rename_i L' hkk hH
        cases h
        have hkk := Nat.eq_of_beq_eq_true hkk
        subst hkk
        obtain ⟨l, rec, room, hs0, hfr, hhd⟩ := hY
        obtain ⟨us, b, room', hs, hus, hrun⟩ := yldX_run (P := P) (w := w) henv hop hy
        rw [hext.sig _ _ hs0] at hs
        cases hs
        obtain ⟨hz, hround⟩ := hhd args M nx _ hH w σ us hok hfree hext hle hus
        refine ⟨fun f _ => FW_fn fr f, ?_⟩
        rw [FW_round, Oper.semAt_eq fr a.eval o (fun c' hc' => by rw [hop] at hc'; cases hc'), hrun, run_yield (hfr.ext hext).here (by simpa using hz)]
        refine ⟨fun q => (by rw [FW_depth] at q; cases q), (hround fr).mono fun e w' hq => ?_⟩
        obtain ⟨rfl, r, hr, σ', g1, g2, g3, g4⟩ := hq
        exact hK _ w' ⟨_, List.mem_map.2 ⟨r, hr, rfl⟩, σ', by simp only [VR], g1, g2, g3, g4⟩
    · rename_i it
      split at h <;> (try (cases h; done))
      rename_i L' hL
      cases h
      obtain ⟨e, he, r, w', h1, h2⟩ := next_ok (P := P) (key := nx) (ty := o.type) hok hL (opv_ok henv it)
      refine opIn (fun c' hc' => by rw [hop] at hc'; cases hc') ?_
      exact Does.made (s := Instr.next (a.eval it) false o.type) (by simp only [execOp, hop]) h1 (⟨_, List.mem_map.2 ⟨e, he, rfl⟩, .of hfree h2⟩ : ∃ r' ∈ _, CPost ρ w σ M nx r' r w') K Q hK
/-- the machine stands where the state says -/
structure St (ds : List Deferred) (ρ : Rho) (w0 : World) (σ0 : Sig) (M0 : Hp) (nx0 n : Nat) (s : XS) (a : Act) (w : World) (σ : Sig) : Prop where
  envr : EnvR ρ σ s.env a.tmps
  size : a.tmps.size = n
  ok : Ok ρ w σ s.M
  free : ∀ k, s.nx ≤ k → σ k = none
  ext : Ext w0 σ0 M0 w σ s.M
  le : nx0 ≤ s.nx
  old : ∀ k, σ k = σ0 k ∨ nx0 ≤ k
  def0 : a.defers = ds
theorem put_get (a : Act) (d : Option Nat) (v : Value) (t : Nat) : (a.put d v).tmps.getD t undef = if d = some t ∧ t < a.tmps.size then v else a.tmps.getD t undef := by
  cases d with
  | none => rw [if_neg (by simp)]; rfl
  | some d =>
    simp only [Act.put, Option.some.injEq]
    simp only [Array.getD_eq_getD_getElem?]
    by_cases h : d = t
    · subst h
      by_cases hl : d < a.tmps.size
      · rw [if_pos ⟨rfl, hl⟩, Array.getElem?_setIfInBounds_self_of_lt hl]; rfl
      · rw [if_neg (by omega), Array.setIfInBounds_eq_of_size_le (by omega)]
    · rw [if_neg (fun q => h q.1), Array.getElem?_setIfInBounds_ne h]
theorem put_size (a : Act) (d : Option Nat) (v : Value) : (a.put d v).tmps.size = a.tmps.size := by
  cases d with
  | none => rfl
  | some d => simp [Act.put]
theorem put_defers (a : Act) (d : Option Nat) (v : Value) : (a.put d v).defers = a.defers := by cases d <;> rfl
theorem EnvR.put (h : EnvR ρ σ env a.tmps) {d : Option Nat} {x : XV} {v : Value} {env' : Env} (hp : putX a.tmps.size env d x = some env') (hv : VR ρ σ x v) : EnvR ρ σ env' (a.put d v).tmps := by
  intro t y hy
  rw [put_size, put_get]
  cases d with
  | none =>
    simp only [putX, Option.some.injEq] at hp
    subst hp
    rw [if_neg (by simp)]
    exact h t y hy
  | some d =>
    simp only [putX] at hp
    split at hp <;> (try (cases hp; done))
    rename_i hlt
    rw [Nat.blt_eq] at hlt
    cases hp
    rw [tget_tset] at hy
    split at hy
    · rename_i e
      subst e
      cases hy
      rw [if_pos ⟨rfl, hlt⟩]
      exact ⟨hlt, hv⟩
    · rename_i e
      rw [if_neg (fun q => e (by simpa using q.1))]
      exact h t y hy
theorem EnvR.mono (h : EnvR ρ σ env a.tmps) (hs : ∀ k p, σ k = some p → σ' k = some p) : EnvR ρ σ' env a.tmps := fun t v hv => ⟨(h t v hv).1, (h t v hv).2.mono hs⟩
theorem St.step {s : XS} {r : Out} {v : Value} (h : St ds ρ w0 σ0 M0 nx0 n s a w σ) {d : Option Nat} (hp : CPost ρ w σ s.M s.nx r v w') {env' : Env} (he : putX n s.env d r.1 = some env') :
    ∃ σ', St ds ρ w0 σ0 M0 nx0 n ⟨env', r.2.1, r.2.2⟩ (a.put d v) w' σ' := by
  obtain ⟨σ', h1, h2, h3, h4, h5⟩ := hp
  refine ⟨σ', ⟨EnvR.put (h.envr.mono h3.sig) (by rw [h.size]; exact he) h1, by rw [put_size]; exact h.size, h2, fun k hk => ?_, h.ext.trans h3, Nat.le_trans h.le h4, fun k => ?_, by rw [put_defers]; exact h.def0⟩⟩
  · rcases h5 k with e | ⟨e1, e2⟩
    · rw [e]; exact h.free k (Nat.le_trans h4 hk)
    · simp only at hk; omega
  · rcases h5 k with e | ⟨e1, e2⟩
    · rw [e]; exact h.old k
    · right; have := h.le; omega
theorem St.skip {s : XS} (h : St ds ρ w0 σ0 M0 nx0 n s a w σ) {d : Option Nat} {env' : Env} (he : putX n s.env d .udf = some env') : St ds ρ w0 σ0 M0 nx0 n ⟨env', s.M, s.nx⟩ (a.put d undef) w σ :=
  ⟨EnvR.put h.envr (by rw [h.size]; exact he) (by simp only [VR]), by rw [put_size]; exact h.size, h.ok, h.free, h.ext, h.le, h.old, by rw [put_defers]; exact h.def0⟩
theorem guard_ok {all : List Oper} (h : EnvR ρ σ env a.tmps) {b : Bool} (hg : guardX all env o.guard = some b) : Region.wanted o (yielded all.toArray a.tmps) = b := by
  unfold guardX at hg
  split at hg
  · rename_i hn
    cases hg
    simp [Region.wanted, hn]
  · rename_i j want hn
    split at hg <;> (try (cases hg; done))
    rename_i d hd
    have hy : ∀ x, a.tmps.getD d undef = x → d < a.tmps.size → yielded all.toArray a.tmps j = (match x with | .bool b => some b | _ => none) := by
      intro x hx hlt
      unfold slotX at hd
      split at hd <;> (try (cases hd; done))
      rename_i o' ho'
      have h1 : a.tmps[d]? = some x := by
        rw [Array.getD_eq_getD_getElem?, Array.getElem?_eq_getElem hlt] at hx
        rw [Array.getElem?_eq_getElem hlt]
        exact congrArg some hx
      simp only [yielded, List.getElem?_toArray, ho', Option.bind_some, hd, h1]
      cases x <;> rfl
    split at hg <;> (try (cases hg; done)) <;> rename_i hv
    · cases hg
      obtain ⟨h1, h2⟩ := h d _ hv
      simp only [VR] at h2
      simp only [Region.wanted, hn, hy _ h2 h1]
      rfl
    · cases hg
      obtain ⟨h1, h2⟩ := h d _ hv
      simp only [VR] at h2
      simp only [Region.wanted, hn, hy _ h2 h1]
      rfl
theorem regN_ok (hΓ : ∀ i op c b k, Γ i op c = some b → binInt op k (ρ i) k c = some (.bool b)) (hcall : CallOk P ρ call) (hY : YOk P ρ w0 σ0 M0 nx0 Y) {all : List Oper} {Q : Exit → Act → World → Prop} :
    ∀ (os : List Oper) (s : XS) (L : List XS) (a : Act) (w : World) (σ : Sig), regN P Γ call Y n all os s = some L → St ds ρ w0 σ0 M0 nx0 n s a w σ →
      (∀ s' ∈ L, ∀ a' w' σ', St ds ρ w0 σ0 M0 nx0 n s' a' w' σ' → Q .normal a' w') → wpListIn (FW fr) 0 P all.toArray Q os a w
  | [], s, L, a, w, σ, h, hs, hQ => by
    simp only [regN, Option.some.injEq] at h
    subst h
    exact hQ s (List.mem_singleton.2 rfl) a w σ hs
  | o :: os, s, L, a, w, σ, h, hs, hQ => by
    unfold regN at h
    unfold wpListIn
    split at h <;> (try (cases h; done)) <;> rename_i hg <;> rw [guard_ok hs.envr hg]
    · rw [if_neg (by simp)]
      split at h <;> (try (cases h; done))
      rename_i env' he
      exact ⟨fun f _ => FW_fn fr f, regN_ok hΓ hcall hY os _ L _ w σ h (hs.skip he) hQ⟩
    · rw [if_pos rfl]
      split at h <;> (try (cases h; done))
      rename_i L' hL
      refine opN_ok hΓ hcall hY hs.ok hs.envr hs.free hs.ext hs.le hL _ _ fun v w' ⟨r, hr, hp⟩ => ?_
      obtain ⟨R, h1, h2⟩ := collect_ok h r hr
      split at h1 <;> (try (cases h1; done))
      rename_i env' he
      obtain ⟨σ', hs'⟩ := hs.step hp he
      exact regN_ok hΓ hcall hY os _ R _ w' σ' h1 hs' fun s' hs' => hQ s' (h2 s' hs')
end
end
end Go.Xn
/- A call upon the objects that it can reach alone. -/
namespace Go.Xn
set_option linter.all false
set_option linter.deprecated false
noncomputable section
mutual
def keysV : XV → List Nat → List Nat
  | .sl n _ _ _ _, l | .mp n _, l | .mm n, l | .yd n, l => n :: l
  | .agg cs, l | .tup cs, l => keysVs cs l
  | .fn _ xs ys, l => keysVs xs (keysVs ys l)
  | .ifc _ x, l => keysV x l
  | _, l => l
def keysVs : List XV → List Nat → List Nat
  | [], l => l
  | x :: xs, l => keysV x (keysVs xs l)
end
def keysO : XObj → List Nat → List Nat
  | .row cs, l => keysVs cs l
  | .cst cs, l => keysVs cs l
  | .map es _, l => go es l
  | .iter (some m) _ _ _, l => m :: l
  | .iter none _ _ _, l => l
where go : List (Nat × XV × XV) → List Nat → List Nat
  | [], l => l
  | (_, k, v) :: es, l => keysV k (keysV v (go es l))
def reachX (M : Hp) : Nat → List Nat → Tr Unit → List Nat → List Nat
  | 0, _, _, out => out
  | _ + 1, [], _, out => out
  | f + 1, k :: ks, vis, out => match tget vis k with
    | some _ => reachX M f ks vis out
    | none => match tget M k with
      | some o => reachX M f (keysO o ks) (tset vis k ()) (k :: out)
      | none => reachX M f ks (tset vis k ()) (k :: out)
def subX (M : Hp) : List Nat → Hp
  | [] => .nil
  | k :: ks => match tget M k with | some o => tset (subX M ks) k o | none => subX M ks
def updX (M : Hp) : List Nat → List (Nat × Option XObj)
  | [] => []
  | k :: ks => (k, tget M k) :: updX M ks
mutual
def kltV (n : Nat) : XV → Bool
  | .sl k _ _ _ _ | .mp k _ | .mm k | .yd k => Nat.blt k n
  | .agg cs | .tup cs => kltVs n cs
  | .fn _ xs ys => match kltVs n xs with | true => kltVs n ys | false => false
  | .ifc _ x => kltV n x
  | _ => true
def kltVs (n : Nat) : List XV → Bool
  | [] => true
  | x :: xs => match kltV n x with | true => kltVs n xs | false => false
end
def kltO (n : Nat) : XObj → Bool
  | .row cs => kltVs n cs
  | .cst cs => kltVs n cs
  | .map es _ => go es
  | .iter (some m) _ _ _ => Nat.blt m n
  | .iter none _ _ _ => true
where go : List (Nat × XV × XV) → Bool
  | [] => true
  | (_, k, v) :: es => match kltV n k, kltV n v with | true, true => go es | _, _ => false
def kltK (n : Nat) (M : Hp) : List Nat → Bool
  | [] => true
  | k :: ks => match tget M k with
    | some o => match Nat.blt k n, kltO n o with | true, true => kltK n M ks | _, _ => false
    | none => kltK n M ks
/-- an operation of a region that draws -/
def opD (P : Program) (Γ : Facts) (call : CallF) (env : Env) (M : Hp) (nx : Nat) (o : Op) : Option (Eff × Nat) :=
  match xop P Γ env M nx o with
  | some e => some (e, nx + 1)
  | none => match o with
    | .call c => match calleeX env c with
      | some (g, args) =>
        let ks := reachX M 1000000 (keysVs args []) .nil []
        match kltVs nx args, kltK nx M ks, call g args (subX M ks) nx with
        | true, true, some [(v, M', nx')] => some (⟨v, ks, updX M' (reachX M' 1000000 (keysV v ks) .nil ks)⟩, nx')
        | _, _, _ => none
      | none => none
    | _ => none
section
variable {P : Program} {o : Oper} {a : Act} {w w' w0 : World} {ρ : Rho} {σ σ' σ0 : Sig} {M M' N M0 : Hp} {key nx nx0 n : Nat} {env env' : Env} {Γ : Facts} {call : CallF} {ds : List Deferred}
theorem reach_out : ∀ (f : Nat) (ks : List Nat) (vis : Tr Unit) (out : List Nat), ∀ k ∈ out, k ∈ reachX M f ks vis out
  | 0, _, _, _, k, hk => hk
  | f + 1, [], _, _, k, hk => hk
  | f + 1, j :: ks, vis, out, k, hk => by
    simp only [reachX]
    split
    · exact reach_out f ks vis out k hk
    · split
      · exact reach_out f _ _ _ k (List.mem_cons_of_mem _ hk)
      · exact reach_out f _ _ _ k (List.mem_cons_of_mem _ hk)
theorem reach_loc : ∀ (f : Nat) (ks : List Nat) (vis : Tr Unit) (out : List Nat), Agree M N (reachX M f ks vis out) → reachX N f ks vis out = reachX M f ks vis out
  | 0, _, _, _, _ => rfl
  | f + 1, [], _, _, _ => rfl
  | f + 1, j :: ks, vis, out, h => by
    simp only [reachX] at h ⊢
    split at h
    · exact reach_loc f ks vis out h
    · split at h
      · rename_i o ho
        have := h j (reach_out _ _ _ _ j List.mem_cons_self)
        rw [this, ho]
        exact reach_loc f _ _ _ h
      · rename_i ho
        have := h j (reach_out _ _ _ _ j List.mem_cons_self)
        rw [this, ho]
        exact reach_loc f _ _ _ h
theorem subX_loc : ∀ {l : List Nat}, Agree M N l → subX N l = subX M l
  | [], _ => rfl
  | k :: ks, h => by
    have ih := subX_loc (l := ks) (h.of fun j hj => List.mem_cons_of_mem _ hj)
    simp only [subX, h k List.mem_cons_self, ih]
theorem subX_get : ∀ (l : List Nat) (k : Nat), tget (subX M l) k = if k ∈ l then tget M k else none
  | [], k => by simp [subX, tget_nil]
  | j :: l, k => by
    have ih := subX_get l k
    simp only [subX]
    split
    · rename_i o ho
      rw [tget_tset]
      by_cases e : j = k
      · subst e; simp [ho]
      · rw [if_neg e, ih]
        have : (k ∈ j :: l) ↔ k ∈ l := by simp [show ¬ k = j from fun h => e h.symm]
        by_cases hk : k ∈ l
        · rw [if_pos hk, if_pos (this.2 hk)]
        · rw [if_neg hk, if_neg fun q => hk (this.1 q)]
    · rename_i ho
      rw [ih]
      by_cases e : j = k
      · subst e
        rw [if_pos List.mem_cons_self, ho]
        split <;> rfl
      · have : (k ∈ j :: l) ↔ k ∈ l := by simp [show ¬ k = j from fun h => e h.symm]
        by_cases hk : k ∈ l
        · rw [if_pos hk, if_pos (this.2 hk)]
        · rw [if_neg hk, if_neg fun q => hk (this.1 q)]
def ukeys : List (Nat × Option XObj) → List Nat
  | [] => []
  | (k, _) :: us => k :: ukeys us
theorem happ_not {k : Nat} : ∀ {us : List (Nat × Option XObj)} {M : Hp}, k ∉ ukeys us → tget (happ M us) k = tget M k
  | [], _, _ => rfl
  | (j, some o) :: us, M, h => by
    simp only [ukeys, List.mem_cons, not_or] at h
    simp only [happ]
    rw [happ_not h.2, tget_tset, if_neg (fun e => h.1 e.symm)]
  | (j, none) :: us, M, h => by
    simp only [ukeys, List.mem_cons, not_or] at h
    simp only [happ]
    rw [happ_not h.2, tget_tdel, if_neg (fun e => h.1 e.symm)]
theorem updX_keys : ∀ (l : List Nat), ukeys (updX M l) = l
  | [] => rfl
  | k :: l => by simp only [updX, ukeys, updX_keys l]
theorem happ_updX : ∀ (l : List Nat) (N : Hp) (k : Nat), tget (happ N (updX M l)) k = if k ∈ l then tget M k else tget N k
  | [], N, k => by simp [updX, happ]
  | j :: l, N, k => by
    by_cases hk : k ∈ l
    · rw [if_pos (List.mem_cons_of_mem _ hk)]
      simp only [updX]
      cases hm : tget M j with
      | none =>
        simp only [happ]
        rw [happ_updX l _ k, if_pos hk]
      | some o =>
        simp only [happ]
        rw [happ_updX l _ k, if_pos hk]
    · simp only [updX]
      have hn : k ∉ ukeys (updX M l) := by rw [updX_keys]; exact hk
      cases hm : tget M j with
      | none =>
        simp only [happ]
        rw [happ_not hn, tget_tdel]
        by_cases e : j = k
        · subst e; simp [hm]
        · rw [if_neg e, if_neg (by simp [hk]; exact fun h => e h.symm)]
      | some o =>
        simp only [happ]
        rw [happ_not hn, tget_tset]
        by_cases e : j = k
        · subst e; simp [hm]
        · rw [if_neg e, if_neg (by simp [hk]; exact fun h => e h.symm)]
theorem Owned.sub {N : Hp} (h : ∀ k o, tget N k = some o → tget M k = some o) {b : Nat} (hb : Owned σ N b) : Owned σ M b := by
  obtain ⟨k, o, p, q, r⟩ := hb
  exact ⟨k, o, p, h _ _ q, r⟩
theorem Ok.sub (hok : Ok ρ w σ M) {N : Hp} (h : ∀ k o, tget N k = some o → tget M k = some o) : Ok ρ w σ N :=
  ⟨fun k o hk => hok.obj k o (h k o hk), fun k k' o o' p p' h1 h2 => hok.inj k k' o o' p p' (h _ _ h1) (h _ _ h2), fun b x hb => ⟨(hok.fix b x hb).1, fun q => (hok.fix b x hb).2 (q.sub h)⟩⟩
/-- what a call did to a part of the objects it did to all -/
theorem CPost.whole (hok : Ok ρ w σ M) {ks l : List Nat} (hsub : ∀ k ∈ ks, k ∈ l) {r : Out} {v : Value} (h : CPost ρ w σ (subX M ks) nx r v w') : CPost ρ w σ M nx (r.1, happ M (updX r.2.1 l), r.2.2) v w' := by
  obtain ⟨σ', h1, h2, h3, h4, h5⟩ := h
  have hs : ∀ k o, tget (subX M ks) k = some o → tget M k = some o := fun k o hk => by
    rw [subX_get] at hk
    split at hk
    · exact hk
    · cases hk
  have get : ∀ k o, tget (happ M (updX r.2.1 l)) k = some o → tget r.2.1 k = some o ∨ (k ∉ ks ∧ tget M k = some o) := fun k o hk => by
    rw [happ_updX] at hk
    split at hk
    · exact .inl hk
    · rename_i hn
      exact .inr ⟨fun h => hn (hsub k h), hk⟩
  -- an object that was left aside lies apart
  have apart : ∀ k o p b, k ∉ ks → tget M k = some o → σ k = some p → p.1 = b → ¬ Owned σ (subX M ks) b := by
    rintro k o p b hk hm hp hb ⟨j, x, q, hj, hq, he, hmu⟩
    have := hok.inj j k x o q p (hs _ _ hj) hm hmu hq hp (by rw [hb, he])
    subst this
    rw [subX_get, if_neg hk] at hj
    cases hj
  have side : ∀ k o, k ∉ ks → tget M k = some o → ∃ p, σ k = some p ∧ OR ρ w σ p o ∧ w'.heap[p.1]? = w.heap[p.1]? := fun k o hk hm => by
    obtain ⟨p, hp, ho⟩ := hok.obj k o hm
    exact ⟨p, hp, ho, h3.blk p.1 ho.lt (apart k o p p.1 hk hm hp rfl)⟩
  have ext : Ext w σ M w' σ' (happ M (updX r.2.1 l)) := by
    refine ⟨h3.os, h3.tape, h3.output, h3.size, fun b hb hn => h3.blk b hb fun ho => hn (ho.sub hs), fun b hb => ?_, h3.sig, fun b hb => ?_⟩
    · obtain ⟨k, o, p, hk, hp, rfl, hmu⟩ := hb
      rcases get k o hk with hk | ⟨hn, hk⟩
      · exact (h3.own p.1 ⟨k, o, p, hk, hp, rfl, hmu⟩).imp (fun g => g.sub hs) id
      · obtain ⟨q, hq, _⟩ := side k o hn hk
        rw [h3.sig _ _ hq] at hp
        cases hp
        exact .inl ⟨k, o, p, hk, hq, rfl, hmu⟩
    · obtain ⟨k, o, p, hk, hp, rfl⟩ := hb
      rcases get k o hk with hk | ⟨hn, hk⟩
      · exact (h3.held p.1 ⟨k, o, p, hk, hp, rfl⟩).imp (fun ⟨j, x, q, g1, g2⟩ => ⟨j, x, q, hs _ _ g1, g2⟩) id
      · obtain ⟨q, hq, _⟩ := side k o hn hk
        rw [h3.sig _ _ hq] at hp
        cases hp
        exact .inl ⟨k, o, p, hk, hq, rfl⟩
  refine ⟨σ', h1, ⟨fun k o hk => ?_, fun k k' o o' p p' hk hk' hmu hp hp' he => ?_, ext.fix hok⟩, ext, h4, h5⟩
  · rcases get k o hk with hk | ⟨hn, hk⟩
    · exact h2.obj k o hk
    · obtain ⟨p, hp, ho, hb⟩ := side k o hn hk
      exact ⟨p, h3.sig _ _ hp, OR.mono h3.sig hb ho⟩
  · rcases get k o hk with hk | ⟨hn, hk⟩ <;> rcases get k' o' hk' with hk' | ⟨hn', hk'⟩
    · exact h2.inj k k' o o' p p' hk hk' hmu hp hp' he
    · -- the first is mutable, of the part; the other was left aside
      exfalso
      obtain ⟨q, hq, ho, _⟩ := side k' o' hn' hk'
      rw [h3.sig _ _ hq] at hp'
      cases hp'
      rcases h3.own p.1 ⟨k, o, p, hk, hp, rfl, hmu⟩ with g | g
      · exact apart k' o' p' p.1 hn' hk' hq he.symm g
      · have := ho.lt; omega
    · exfalso
      obtain ⟨q, hq, ho, _⟩ := side k o hn hk
      rw [h3.sig _ _ hq] at hp
      cases hp
      -- the second one, of the part, lies where a mutable one that was left aside lies
      rcases h3.held p'.1 ⟨k', o', p', hk', hp', rfl⟩ with ⟨j, x, q', hj, hq', he'⟩ | g
      · have hj' := hs _ _ hj
        have := hok.inj k j o x p q' hk hj' hmu hq hq' (he.trans he'.symm)
        subst this
        rw [subX_get, if_neg hn] at hj
        cases hj
      · have := ho.lt; omega
    · obtain ⟨q, hq, _⟩ := side k o hn hk
      obtain ⟨q', hq', _⟩ := side k' o' hn' hk'
      rw [h3.sig _ _ hq] at hp
      rw [h3.sig _ _ hq'] at hp'
      cases hp
      cases hp'
      exact hok.inj k k' o o' p p' hk hk' hmu hq hq' he
def trunc (σ : Sig) (n : Nat) : Sig := fun k => if k < n then σ k else none
mutual
theorem VR.trunc {n : Nat} : ∀ {x : XV} {v : Value}, kltV n x = true → VR ρ σ x v → VR ρ (trunc σ n) x v
  | .un, _, _, _ => by simp only [VR]
  | .udf, _, _, hv => by simpa only [VR] using hv
  | .int .., _, _, hv => by simpa only [VR] using hv
  | .bool _, _, _, hv => by simpa only [VR] using hv
  | .str _, _, _, hv => by simpa only [VR] using hv
  | .si .., _, _, hv => by simpa only [VR] using hv
  | .nils, _, _, hv => by simpa only [VR] using hv
  | .nilp, _, _, hv => by simpa only [VR] using hv
  | .nilf, _, _, hv => by simpa only [VR] using hv
  | .nilm, _, _, hv => by simpa only [VR] using hv
  | .nili, _, _, hv => by simpa only [VR] using hv
  | .sl k esz off len cap, v, h, hv => by
    simp only [kltV, Nat.blt_eq] at h
    simp only [VR, Xn.trunc, if_pos h] at hv ⊢
    exact hv
  | .mp k off, v, h, hv => by
    simp only [kltV, Nat.blt_eq] at h
    simp only [VR, Xn.trunc, if_pos h] at hv ⊢
    exact hv
  | .mm k, v, h, hv => by
    simp only [kltV, Nat.blt_eq] at h
    simp only [VR, Xn.trunc, if_pos h] at hv ⊢
    exact hv
  | .yd k, v, h, hv => by
    simp only [kltV, Nat.blt_eq] at h
    simp only [VR, Xn.trunc, if_pos h] at hv ⊢
    exact hv
  | .txt ps, v, _, hv => by simpa only [VR] using hv
  | .agg cs, v, h, hv => by
    simp only [kltV] at h
    simp only [VR] at hv ⊢
    obtain ⟨us, h1, r⟩ := hv
    exact ⟨us, h1, VRs.trunc h r⟩
  | .tup cs, v, h, hv => by
    simp only [kltV] at h
    simp only [VR] at hv ⊢
    obtain ⟨us, h1, r⟩ := hv
    exact ⟨us, h1, VRs.trunc h r⟩
  | .fn f xs ys, v, h, hv => by
    unfold kltV at h
    split at h <;> (try (cases h; done))
    rename_i h0
    simp only [VR] at hv ⊢
    obtain ⟨us, us', h1, r, r'⟩ := hv
    exact ⟨us, us', h1, VRs.trunc h0 r, VRs.trunc h r'⟩
  | .ifc t x, v, h, hv => by
    simp only [kltV] at h
    simp only [VR] at hv ⊢
    obtain ⟨u, h1, r⟩ := hv
    exact ⟨u, h1, VR.trunc h r⟩
theorem VRs.trunc {n : Nat} : ∀ {xs : List XV} {us : List Value}, kltVs n xs = true → VRs ρ σ xs us → VRs ρ (trunc σ n) xs us
  | [], _, _, hv => by simpa only [VRs] using hv
  | x :: xs, us, h, hv => by
    unfold kltVs at h
    split at h <;> (try (cases h; done))
    rename_i h0
    simp only [VRs] at hv ⊢
    obtain ⟨u, us', e, h1, h2⟩ := hv
    exact ⟨u, us', e, VR.trunc h0 h1, VRs.trunc h h2⟩
end
theorem MEs.trunc {n : Nat} : ∀ {xs : List (Nat × XV × XV)} {es : List MapEntry}, kltO.go n xs = true → MEs ρ σ xs es → MEs ρ (trunc σ n) xs es
  | [], _, _, hv => by simpa only [MEs] using hv
  | (b, k, v) :: xs, es, h, hv => by
    unfold kltO.go at h
    split at h <;> (try (cases h; done))
    rename_i g1 g2
    simp only [MEs] at hv ⊢
    obtain ⟨e, es', e1, e2, h1, h2, h3⟩ := hv
    exact ⟨e, es', e1, e2, VR.trunc g1 h1, VR.trunc g2 h2, MEs.trunc h h3⟩
theorem OR.trunc {n : Nat} {p : Nat × Nat} : ∀ {o : XObj}, kltO n o = true → OR ρ w σ p o → OR ρ w (trunc σ n) p o
  | .cst cs, h, ho => by
    simp only [kltO] at h
    simp only [OR] at ho ⊢
    obtain ⟨us, t, fz, h1, h2, h3, h5⟩ := ho
    exact ⟨us, t, fz, h1, h2, h3, VRs.trunc h h5⟩
  | .row cs, h, ho => by
    simp only [kltO] at h
    simp only [OR] at ho ⊢
    obtain ⟨us, t, fz, h1, h2, h3, h4, h5⟩ := ho
    exact ⟨us, t, fz, h1, h2, h3, h4, VRs.trunc h h5⟩
  | .map es clock, h, ho => by
    simp only [kltO] at h
    simp only [OR] at ho ⊢
    obtain ⟨es', h1, h2⟩ := ho
    exact ⟨es', h1, MEs.trunc h h2⟩
  | .iter none _ _ _, _, ho => ho
  | .iter (Option.some m) _ _ _, h, ho => by
    simp only [kltO, Nat.blt_eq] at h
    simp only [OR, Xn.trunc, if_pos h] at ho ⊢
    exact ho
theorem kltK_ok {n : Nat} : ∀ {l : List Nat} {k : Nat} {o : XObj}, kltK n M l = true → k ∈ l → tget M k = some o → k < n ∧ kltO n o = true
  | [], _, _, _, hk, _ => by cases hk
  | j :: l, k, o, h, hk, hm => by
    unfold kltK at h
    split at h
    · rename_i o' ho'
      split at h <;> (try (cases h; done))
      rename_i g1 g2
      rw [Nat.blt_eq] at g1
      rcases List.mem_cons.1 hk with rfl | hk
      · rw [hm] at ho'
        cases ho'
        exact ⟨g1, g2⟩
      · exact kltK_ok h hk hm
    · rename_i ho'
      rcases List.mem_cons.1 hk with rfl | hk
      · rw [hm] at ho'; cases ho'
      · exact kltK_ok h hk hm
theorem Ok.trunc (hok : Ok ρ w σ M) {n : Nat} {ks : List Nat} (h : kltK n M ks = true) : Ok ρ w (trunc σ n) (subX M ks) := by
  have get : ∀ k o, tget (subX M ks) k = some o → k ∈ ks ∧ tget M k = some o := fun k o hk => by
    rw [subX_get] at hk
    split at hk
    · exact ⟨‹_›, hk⟩
    · cases hk
  have sub : ∀ k p, Xn.trunc σ n k = some p → σ k = some p := fun k p h => by
    simp only [Xn.trunc] at h
    split at h
    · exact h
    · cases h
  refine ⟨fun k o hk => ?_, fun k k' o o' p p' hk hk' hmu hp hp' he => ?_, fun b x hb => ⟨(hok.fix b x hb).1, fun ⟨k, o, p, hk, hp, e, hmu⟩ => (hok.fix b x hb).2 ⟨k, o, p, (get k o hk).2, sub _ _ hp, e, hmu⟩⟩⟩
  · obtain ⟨g1, g2⟩ := get k o hk
    obtain ⟨p, hp, ho⟩ := hok.obj k o g2
    obtain ⟨g3, g4⟩ := kltK_ok h g1 g2
    exact ⟨p, by simp only [Xn.trunc, if_pos g3]; exact hp, OR.trunc g4 ho⟩
  · exact hok.inj k k' o o' p p' (get _ _ hk).2 (get _ _ hk').2 hmu (sub _ _ hp) (sub _ _ hp') he
theorem opD_ok (hΓ : ∀ i op c b k, Γ i op c = some b → binInt op k (ρ i) k c = some (.bool b)) (hcall : CallOk P ρ call) (hok : Ok ρ w σ M) (henv : EnvR ρ σ env a.tmps) {lo hi : Nat} (hfree : ∀ k, lo ≤ k → k < hi → σ k = none) {e : Eff} (h : opD P Γ call env M lo o.op = some (e, hi)) :
    Does P o a w fun v w' => CPost ρ w σ M lo (e.val, happ M e.upd, hi) v w' := by
  unfold opD at h
  split at h
  · rename_i e' he
    cases h
    intro K Q hK
    refine xop_ok hΓ hok henv (hfree lo (Nat.le_refl _) (Nat.lt_succ_self _)) he K Q fun v w' hp => hK v w' ?_
    obtain ⟨σ', h1, h2, h3, h4⟩ := hp
    exact ⟨σ', h1, h2, h3, Nat.le_succ _, fun k => (h4 k).imp id fun e => by subst e; exact ⟨Nat.le_refl _, Nat.lt_succ_self _⟩⟩
  · split at h <;> (try (cases h; done))
    rename_i c hop
    split at h <;> (try (cases h; done))
    rename_i g args hc
    simp only at h
    split at h <;> (try (cases h; done))
    rename_i val M' nx' k1 k2 hL
    cases h
    generalize hks : reachX M 1000000 (keysVs args []) Tr.nil [] = ks at *
    obtain ⟨vs, h1, h2⟩ := callee_run (P := P) (w := w) henv hop hc
    intro K Q hK
    unfold Oper.wp
    rw [h2]
    refine hcall g args _ lo _ hL w (trunc σ lo) vs (hok.trunc k2) (fun k hk => by simp only [trunc, if_neg (show ¬ k < lo by omega)]) (VRs.trunc k1 h1) o a K Q fun v w' ⟨r, hr, hp⟩ => hK v w' ?_
    obtain rfl := List.mem_singleton.1 hr
    obtain ⟨σ2, q1, q2, q3, q4, q5⟩ := hp
    simp only at q1 q2 q3 q4 q5
    -- under the whole numbering
    have sub : ∀ k p, trunc σ lo k = some p → σ k = some p := fun k p h => by
      simp only [trunc] at h
      split at h
      · exact h
      · cases h
    have m1 : ∀ k p, σ k = some p → (fun k => if lo ≤ k ∧ k < hi then σ2 k else σ k) k = some p := fun k p h => by
      simp only
      split
      · rename_i hh
        rw [hfree k hh.1 hh.2] at h; cases h
      · exact h
    have m2 : ∀ k p, σ2 k = some p → (fun k => if lo ≤ k ∧ k < hi then σ2 k else σ k) k = some p := fun k p h => by
      simp only
      split
      · exact h
      · rename_i hh
        rcases q5 k with e | e
        · rw [e] at h; exact sub k p h
        · exact (hh e).elim
    have back : ∀ {j : Nat} {x : XObj} {p : Nat × Nat}, tget M' j = some x → (fun k => if lo ≤ k ∧ k < hi then σ2 k else σ k) j = some p → σ2 j = some p := fun {j x p} hj hp => by
      obtain ⟨q, hq, _⟩ := q2.obj j x hj
      have e1 := m2 _ _ hq
      rw [e1] at hp
      cases hp
      exact hq
    have ext2 : Ext w σ (subX M ks) w' (fun k => if lo ≤ k ∧ k < hi then σ2 k else σ k) M' := by
      refine ⟨q3.os, q3.tape, q3.output, q3.size, fun b hb hn => q3.blk b hb fun ho => hn ?_, fun b hb => ?_, m1, fun b hb => ?_⟩
      · obtain ⟨j, x, p, hj, hp, e, hmu⟩ := ho
        exact ⟨j, x, p, hj, sub _ _ hp, e, hmu⟩
      · obtain ⟨j, x, p, hj, hp, rfl, hmu⟩ := hb
        rcases q3.own p.1 ⟨j, x, p, hj, back hj hp, rfl, hmu⟩ with ⟨i, y, q, hi, hq, he⟩ | g
        · exact .inl ⟨i, y, q, hi, sub _ _ hq, he⟩
        · exact .inr g
      · obtain ⟨j, x, p, hj, hp, rfl⟩ := hb
        rcases q3.held p.1 ⟨j, x, p, hj, back hj hp, rfl⟩ with ⟨i, y, q, hi, hq, he⟩ | g
        · exact .inl ⟨i, y, q, hi, sub _ _ hq, he⟩
        · exact .inr g
    have hp2 : CPost ρ w σ (subX M ks) lo (val, M', hi) v w' := by
      refine ⟨fun k => if lo ≤ k ∧ k < hi then σ2 k else σ k, q1.mono m2, ⟨fun k o hk => ?_, fun k k' o o' p p' hk hk' hmu hp hp' he => ?_, fun b x hb => ⟨(q2.fix b x hb).1, fun ⟨k, o, p, hk, hp, e, hmu⟩ => (q2.fix b x hb).2 ⟨k, o, p, hk, back hk hp, e, hmu⟩⟩⟩, ext2, q4, fun k => ?_⟩
      · obtain ⟨p, hp, ho⟩ := q2.obj k o hk
        exact ⟨p, m2 _ _ hp, OR.mono m2 rfl ho⟩
      · exact q2.inj k k' o o' p p' hk hk' hmu (back hk hp) (back hk' hp') he
      · simp only
        split
        · rename_i hh; exact .inr hh
        · exact .inl rfl
    exact hp2.whole hok fun k hk => reach_out _ _ _ _ k hk
end
end
end Go.Xn
/- Regions that draw their order: what is shown in the text's order holds in every order. -/
namespace Go.Xn
set_option linter.all false
set_option linter.deprecated false
noncomputable section
section
variable {P : Program} {w w' w0 : World} {ρ : Rho} {σ σ' σ0 : Sig} {M N M' M0 : Hp} {Γ : Facts} {call : CallF} {env env' : Env} {ds : List Deferred}

def disj : List Nat → List Nat → Bool
  | [], _ => true
  | k :: ks, l => match lmem l k with | true => false | false => disj ks l
theorem lmem_iff (l : List Nat) (n : Nat) : lmem l n = true ↔ n ∈ l := by
  induction l with
  | nil => simp [lmem]
  | cons k l ih =>
    simp only [lmem]
    cases h : Nat.beq k n with
    | true => have := Nat.eq_of_beq_eq_true h; subst this; simp
    | false =>
      have : ¬ n = k := fun e => by subst e; simp at h
      simp [this, ih]
theorem disj_iff : ∀ {k l : List Nat}, disj k l = true → ∀ x ∈ k, x ∉ l
  | [], _, _, _, h => by cases h
  | k :: ks, l, h, x, hx => by
    unfold disj at h
    split at h <;> (try (cases h; done))
    rename_i h1
    rcases List.mem_cons.1 hx with rfl | hx
    · intro hl
      rw [(lmem_iff _ _).2 hl] at h1
      cases h1
    · exact disj_iff h x hx
abbrev Log := List (Nat × List Nat × List Nat)
def logOf (i : Nat) (e : Eff) (l : Log) : Log :=
  match e.rd, e.upd with
  | [], [] => l
  | rd, us => (i, rd, ukeys us) :: l
/-- the ancestors of an operation -/
def ancGo (ops : List Oper) : Nat → List Nat → List Nat
  | 0, acc => acc
  | i + 1, acc => match lmem acc i with
    | false => ancGo ops i acc
    | true => ancGo ops i (acc ++ (match ops[i]? with | some o => (o.after.toList.filter (fun e => Region.binds .any e)).map (·.on) | none => []))
def anc (ops : List Oper) (j : Nat) : List Nat := ancGo ops (j + 1) [j]
def okPair (ops : List Oper) (x y : Nat × List Nat × List Nat) : Bool :=
  (disj x.2.2 y.2.1 && disj x.2.2 y.2.2 && disj y.2.2 x.2.1) || lmem (anc ops y.1) x.1 || lmem (anc ops x.1) y.1
def okLog (ops : List Oper) : Log → Bool
  | [] => true
  | x :: l => l.all (okPair ops x) && okLog ops l
structure Ent where
  dst : Option Nat
  val : XV
  rd : List Nat
  upd : List (Nat × Option XObj)
  lo : Nat
  hi : Nat
abbrev PS := Env × Hp
def setE (env : Env) : Option Nat → XV → Env
  | none, _ => env
  | some d, v => tset env d v
theorem setE_get (env : Env) (d : Option Nat) (v : XV) (t : Nat) : tget (setE env d v) t = if d = some t then some v else tget env t := by
  cases d with
  | none => rw [if_neg (by simp)]; rfl
  | some d =>
    simp only [setE, tget_tset, Option.some.injEq]
def Ent.app (x : Ent) (s : PS) : PS := (setE s.1 x.dst x.val, happ s.2 x.upd)
def runS (S : Nat → Bool) : List Ent → Nat → PS → PS
  | [], _, s => s
  | x :: xs, i, s => runS S xs (i + 1) (if S i then x.app s else s)
theorem happ_congr {k : Nat} : ∀ {us : List (Nat × Option XObj)} {M N : Hp}, (k ∉ ukeys us → tget M k = tget N k) → tget (happ M us) k = tget (happ N us) k
  | [], _, _, h => h (by simp [ukeys])
  | (j, some o) :: us, M, N, h => by
    simp only [happ]
    refine happ_congr fun hk => ?_
    rw [tget_tset, tget_tset]
    by_cases e : j = k
    · rw [if_pos e, if_pos e]
    · rw [if_neg e, if_neg e]
      exact h (by simp only [ukeys, List.mem_cons, not_or]; exact ⟨fun q => e q.symm, hk⟩)
  | (j, none) :: us, M, N, h => by
    simp only [happ]
    refine happ_congr fun hk => ?_
    rw [tget_tdel, tget_tdel]
    by_cases e : j = k
    · rw [if_pos e, if_pos e]
    · rw [if_neg e, if_neg e]
      exact h (by simp only [ukeys, List.mem_cons, not_or]; exact ⟨fun q => e q.symm, hk⟩)
theorem runS_slot {S S' : Nat → Bool} {t : Nat} : ∀ (xs : List Ent) (i : Nat) (s s' : PS), tget s.1 t = tget s'.1 t →
    (∀ j x, xs[j]? = some x → x.dst = some t → S (i + j) = S' (i + j)) → tget (runS S xs i s).1 t = tget (runS S' xs i s').1 t
  | [], _, _, _, h, _ => h
  | x :: xs, i, s, s', h, hs => by
    simp only [runS]
    have h0 : x.dst = some t → S i = S' i := fun hd => by have := hs 0 x rfl hd; simpa using this
    refine runS_slot xs (i + 1) _ _ ?_ fun j y hj hy => by
      have := hs (j + 1) y (by simpa using hj) hy
      rwa [show i + 1 + j = i + (j + 1) by omega]
    by_cases hd : x.dst = some t
    · rw [h0 hd]
      split
      · simp only [Ent.app, setE_get, h]
      · exact h
    · have e : ∀ s : PS, tget (x.app s).1 t = tget s.1 t := fun s => by simp only [Ent.app, setE_get]; rw [if_neg hd]
      split <;> split <;> simp only [e, h]
theorem runS_key {S S' : Nat → Bool} {k : Nat} : ∀ (xs : List Ent) (i : Nat) (s s' : PS), tget s.2 k = tget s'.2 k →
    (∀ j x, xs[j]? = some x → k ∈ ukeys x.upd → S (i + j) = S' (i + j)) → tget (runS S xs i s).2 k = tget (runS S' xs i s').2 k
  | [], _, _, _, h, _ => h
  | x :: xs, i, s, s', h, hs => by
    simp only [runS]
    have h0 : k ∈ ukeys x.upd → S i = S' i := fun hd => by have := hs 0 x rfl hd; simpa using this
    refine runS_key xs (i + 1) _ _ ?_ fun j y hj hy => by
      have := hs (j + 1) y (by simpa using hj) hy
      rwa [show i + 1 + j = i + (j + 1) by omega]
    by_cases hd : k ∈ ukeys x.upd
    · rw [h0 hd]
      split
      · exact happ_congr fun _ => h
      · exact h
    · have e : ∀ s : PS, tget (x.app s).2 k = tget s.2 k := fun s => happ_not hd
      split <;> split <;> simp only [e, h]
theorem runS_all {S S' : Nat → Bool} : ∀ (xs : List Ent) (i : Nat) (s : PS), (∀ j, j < xs.length → S (i + j) = S' (i + j)) → runS S xs i s = runS S' xs i s
  | [], _, _, _ => rfl
  | x :: xs, i, s, h => by
    simp only [runS]
    have h0 := h 0 (by simp)
    simp only [Nat.add_zero] at h0
    rw [h0]
    exact runS_all xs (i + 1) _ fun j hj => by
      have := h (j + 1) (by simpa using hj)
      rwa [show i + 1 + j = i + (j + 1) by omega]
theorem runS_none {S : Nat → Bool} : ∀ (xs : List Ent) (i : Nat) (s : PS), (∀ j, j < xs.length → S (i + j) = false) → runS S xs i s = s
  | [], _, _, _ => rfl
  | x :: xs, i, s, h => by
    simp only [runS]
    have h0 := h 0 (by simp)
    simp only [Nat.add_zero] at h0
    rw [h0]
    exact runS_none xs (i + 1) _ fun j hj => by
      have := h (j + 1) (by simpa using hj)
      rwa [show i + 1 + j = i + (j + 1) by omega]
theorem runS_append {S : Nat → Bool} : ∀ (xs ys : List Ent) (i : Nat) (s : PS), runS S (xs ++ ys) i s = runS S ys (i + xs.length) (runS S xs i s)
  | [], _, _, _ => rfl
  | x :: xs, ys, i, s => by
    simp only [List.cons_append, runS, List.length_cons]
    rw [runS_append xs ys, show i + 1 + xs.length = i + (xs.length + 1) by omega]
/-- the state ahead of the i-th, in the text's order -/
theorem runS_take (xs : List Ent) (i : Nat) (s : PS) : runS (fun _ => true) (xs.take i) 0 s = runS (fun j => decide (j < i)) xs 0 s := by
  conv => rhs; rw [← List.take_append_drop i xs]
  rw [runS_append, runS_none (List.drop i xs)]
  · exact runS_all _ _ _ fun j hj => by
      rw [List.length_take] at hj
      simp; omega
  · intro j hj
    rw [List.length_drop] at hj
    rw [List.length_take, Nat.min_eq_left (by omega)]
    simp
/-- one more that is done, and none behind it that writes where it writes -/
theorem runS_add {S : Nat → Bool} {xs : List Ent} {i : Nat} {x : Ent} {s : PS} (hx : xs[i]? = some x) (hi : S i = false)
    (h1 : ∀ j y, xs[j]? = some y → i < j → S j = true → ∀ t, x.dst = some t → y.dst ≠ some t) (h2 : ∀ j y, xs[j]? = some y → i < j → S j = true → ∀ k ∈ ukeys x.upd, k ∉ ukeys y.upd) :
    (∀ t, tget (runS (fun j => S j || decide (j = i)) xs 0 s).1 t = tget (x.app (runS S xs 0 s)).1 t) ∧ ∀ k, tget (runS (fun j => S j || decide (j = i)) xs 0 s).2 k = tget (x.app (runS S xs 0 s)).2 k := by
  obtain ⟨hil, hxe⟩ := List.getElem?_eq_some_iff.1 hx
  have hsplit : xs = xs.take i ++ x :: xs.drop (i + 1) := by rw [← hxe, ← List.drop_eq_getElem_cons hil, List.take_append_drop]
  have hlen : (xs.take i).length = i := by rw [List.length_take]; omega
  have hpost : ∀ j y, (xs.drop (i + 1))[j]? = some y → xs[i + 1 + j]? = some y := fun j y h => by rw [List.getElem?_drop] at h; exact h
  obtain ⟨S', hS'⟩ : ∃ S' : Nat → Bool, S' = fun j => S j || decide (j = i) := ⟨_, rfl⟩
  rw [← hS']
  have e1 : ∀ s, runS S' xs 0 s = runS S' (xs.drop (i + 1)) (i + 1) (x.app (runS S' (xs.take i) 0 s)) := fun s => by
    conv => lhs; rw [hsplit]
    rw [runS_append, hlen, Nat.zero_add, runS, hS']
    simp
  have e2 : runS S' (xs.take i) 0 s = runS S (xs.take i) 0 s := runS_all _ _ _ fun j hj => by
    rw [hlen] at hj
    simp [hS']; omega
  have e3 : ∀ s, runS S xs 0 s = runS S (xs.drop (i + 1)) (i + 1) (runS S (xs.take i) 0 s) := fun s => by
    conv => lhs; rw [hsplit]
    rw [runS_append, hlen, Nat.zero_add, runS, hi]
    simp
  have e4 : ∀ s, runS S' (xs.drop (i + 1)) (i + 1) s = runS S (xs.drop (i + 1)) (i + 1) s := fun s => runS_all _ _ _ fun j hj => by
    simp [hS']; omega
  rw [e1, e2, e3, e4]
  obtain ⟨s1, hs1⟩ : ∃ s1, s1 = runS S (xs.take i) 0 s := ⟨_, rfl⟩
  rw [← hs1]
  refine ⟨fun t => ?_, fun k => ?_⟩
  · by_cases hd : x.dst = some t
    · have a1 : tget (runS S (xs.drop (i + 1)) (i + 1) (x.app s1)).1 t = tget (x.app s1).1 t := by
        rw [runS_slot (S' := fun _ => false) _ _ _ (x.app s1) rfl fun j y hj hy => ?_, runS_none _ _ _ fun _ _ => rfl]
        cases hS : S (i + 1 + j) with
        | false => rfl
        | true => exact (h1 _ y (hpost j y hj) (by omega) hS t hd hy).elim
      rw [a1]
      simp only [Ent.app, setE_get, hd, if_true]
    · have a2 : ∀ s : PS, tget (x.app s).1 t = tget s.1 t := fun s => by simp only [Ent.app, setE_get]; rw [if_neg hd]
      rw [a2]
      exact runS_slot _ _ _ _ (a2 _) fun _ _ _ _ => rfl
  · by_cases hk : k ∈ ukeys x.upd
    · have a1 : tget (runS S (xs.drop (i + 1)) (i + 1) (x.app s1)).2 k = tget (x.app s1).2 k := by
        rw [runS_key (S' := fun _ => false) _ _ _ (x.app s1) rfl fun j y hj hy => ?_, runS_none _ _ _ fun _ _ => rfl]
        cases hS : S (i + 1 + j) with
        | false => rfl
        | true => exact (h2 _ y (hpost j y hj) (by omega) hS k hk hy).elim
      rw [a1]
      exact happ_congr fun h => (h hk).elim
    · have a2 : ∀ s : PS, tget (x.app s).2 k = tget s.2 k := fun s => happ_not hk
      rw [a2]
      exact runS_key _ _ _ _ (a2 _) fun _ _ _ _ => rfl
/-! ### the plan -/
def Step (P : Program) (Γ : Facts) (call : CallF) (all : List Oper) (o : Oper) (x : Ent) (s : PS) : Prop :=
  x.dst = o.dst ∧
    ((guardX all s.1 o.guard = some true ∧ ∃ e, opD P Γ call s.1 s.2 x.lo o.op = some (e, x.hi) ∧ x.val = e.val ∧ x.rd = e.rd ∧ x.upd = e.upd) ∨
     (guardX all s.1 o.guard = some false ∧ x.val = .udf ∧ x.rd = [] ∧ x.upd = [] ∧ x.lo = x.hi))
def regD (P : Program) (Γ : Facts) (call : CallF) (n : Nat) (all : List Oper) : List Oper → Nat → XS → Log → Option (XS × Log)
  | [], _, s, log => some (s, log)
  | o :: os, i, s, log => match guardX all s.env o.guard with
    | none => none
    | some false => match putX n s.env o.dst .udf with
      | some env => regD P Γ call n all os (i + 1) ⟨env, s.M, s.nx⟩ log
      | none => none
    | some true => match opD P Γ call s.env s.M s.nx o.op with
      | none => none
      | some (e, nx') => match putX n s.env o.dst e.val, Nat.ble s.nx nx' with
        | some env, true => regD P Γ call n all os (i + 1) ⟨env, happ s.M e.upd, nx'⟩ (logOf i e log)
        | _, _ => none
def logX : List Ent → Nat → Log → Log
  | [], _, l => l
  | x :: xs, i, l => logX xs (i + 1) (logOf i ⟨.un, x.rd, x.upd⟩ l)
theorem putX_eq {n : Nat} {env env' : Env} {d : Option Nat} {v : XV} (h : putX n env d v = some env') : env' = setE env d v ∧ ∀ t, d = some t → t < n := by
  cases d with
  | none => simp only [putX, Option.some.injEq] at h; exact ⟨h.symm, fun t h => by cases h⟩
  | some d =>
    simp only [putX] at h
    split at h <;> (try (cases h; done))
    rename_i hlt
    rw [Nat.blt_eq] at hlt
    cases h
    exact ⟨rfl, fun t ht => by cases ht; exact hlt⟩
/-- the numbers that a plan's operations give, one range behind the other -/
def Ranges : Nat → List Ent → Nat → Prop
  | lo, [], hi => lo = hi
  | lo, x :: xs, hi => x.lo = lo ∧ x.lo ≤ x.hi ∧ Ranges x.hi xs hi
theorem regD_plan {n : Nat} {all : List Oper} : ∀ (os : List Oper) (i : Nat) (s : XS) (log : Log) (s' : XS) (log' : Log), regD P Γ call n all os i s log = some (s', log') →
    ∃ xs, xs.length = os.length ∧ (s'.env, s'.M) = runS (fun _ => true) xs i (s.env, s.M) ∧ log' = logX xs i log ∧ Ranges s.nx xs s'.nx ∧ (∀ x ∈ xs, ∀ t, x.dst = some t → t < n) ∧
      ∀ j o x, os[j]? = some o → xs[j]? = some x → Step P Γ call all o x (runS (fun _ => true) (xs.take j) i (s.env, s.M))
  | [], i, s, log, s', log', h => by
    simp only [regD, Option.some.injEq, Prod.mk.injEq] at h
    obtain ⟨rfl, rfl⟩ := h
    exact ⟨[], rfl, rfl, rfl, rfl, by simp, fun j o x h => by simp at h⟩
  | o :: os, i, s, log, s', log', h => by
    have mk : ∀ (x : Ent) (s1 : XS) (log1 : Log), Step P Γ call all o x (s.env, s.M) → (s1.env, s1.M) = x.app (s.env, s.M) → log1 = logOf i ⟨.un, x.rd, x.upd⟩ log → x.lo = s.nx → x.hi = s1.nx → x.lo ≤ x.hi → (∀ t, x.dst = some t → t < n) →
        regD P Γ call n all os (i + 1) s1 log1 = some (s', log') →
        ∃ xs, xs.length = (o :: os).length ∧ (s'.env, s'.M) = runS (fun _ => true) xs i (s.env, s.M) ∧ log' = logX xs i log ∧ Ranges s.nx xs s'.nx ∧ (∀ x ∈ xs, ∀ t, x.dst = some t → t < n) ∧
          ∀ j o' x, (o :: os)[j]? = some o' → xs[j]? = some x → Step P Γ call all o' x (runS (fun _ => true) (xs.take j) i (s.env, s.M)) := by
      intro x s1 log1 hst h1 h2 h3 h4 h5 h6 h7
      obtain ⟨xs, g2, g3, g4, g5, g6, g7⟩ := regD_plan os (i + 1) s1 log1 s' log' h7
      refine ⟨x :: xs, by simp [g2], ?_, ?_, ⟨h3, h5, by rw [h4]; exact g5⟩, fun y hy => ?_, fun j o' x' hj hx => ?_⟩
      · rw [g3, h1]; rfl
      · rw [g4, h2]; rfl
      · rcases List.mem_cons.1 hy with rfl | hy
        · exact h6
        · exact g6 y hy
      · cases j with
        | zero =>
          simp only [List.getElem?_cons_zero, Option.some.injEq] at hj hx
          subst hj hx
          exact hst
        | succ j =>
          simp only [List.getElem?_cons_succ] at hj hx
          have := g7 j o' x' hj hx
          rw [h1] at this
          exact this
    unfold regD at h
    split at h <;> (try (cases h; done)) <;> rename_i hg
    · split at h <;> (try (cases h; done))
      rename_i env' he
      obtain ⟨rfl, e2⟩ := putX_eq he
      exact mk ⟨o.dst, .udf, [], [], s.nx, s.nx⟩ ⟨setE s.env o.dst .udf, s.M, s.nx⟩ log ⟨rfl, .inr ⟨hg, rfl, rfl, rfl, rfl⟩⟩ rfl rfl rfl rfl (Nat.le_refl _) e2 h
    · split at h <;> (try (cases h; done))
      rename_i e nx' hop
      split at h <;> (try (cases h; done))
      rename_i env' he hle
      obtain ⟨rfl, e2⟩ := putX_eq he
      exact mk ⟨o.dst, e.val, e.rd, e.upd, s.nx, nx'⟩ ⟨setE s.env o.dst e.val, happ s.M e.upd, nx'⟩ (logOf i e log) ⟨rfl, .inl ⟨hg, e, hop, rfl, rfl, rfl⟩⟩ rfl rfl rfl rfl (Nat.le_of_ble_eq_true hle) e2 h
/-! the slots that an operation looks at -/
def tslot : Operand → Option Nat
  | .tmp t => some t
  | _ => none
def rslots (all : List Oper) (o : Oper) : List Nat := (opnds o.op).filterMap tslot ++ (match o.guard with | some (j, _) => (slotX all j).toList | none => [])
theorem callee_xop {c : Call} {r : Nat × List XV} (h : calleeX env c = some r) {nx : Nat} : xop P Γ env M nx (.call c) = none := by
  unfold calleeX at h
  split at h <;> (try (cases h; done))
  rename_i f hf
  simp only [xop, hf]
theorem opD_loc {nx hi : Nat} {o : Op} {e : Eff} (h : opD P Γ call env M nx o = some (e, hi)) (hN : Agree M N e.rd) : opD P Γ call env N nx o = some (e, hi) := by
  unfold opD at h ⊢
  split at h
  · rename_i e' he
    cases h
    simp only [xop_loc he hN]
  · split at h <;> (try (cases h; done))
    rename_i c
    split at h <;> (try (cases h; done))
    rename_i g args hc
    simp only at h
    split at h <;> (try (cases h; done))
    rename_i v M' nx' k1 k2 hL
    cases h
    simp only at hN
    have hr := reach_loc _ _ _ _ hN
    have hkk : ∀ {l : List Nat}, Agree M N l → kltK nx N l = kltK nx M l := by
      intro l
      induction l with
      | nil => intro _; rfl
      | cons k l ih =>
        intro h
        simp only [kltK, h k List.mem_cons_self]
        split <;> simp only [ih (h.of fun j hj => List.mem_cons_of_mem _ hj)]
    simp only [callee_xop hc, hc, hr, subX_loc hN, hkk hN, k1, k2, hL]
theorem opD_env {nx : Nat} {o : Op} (h : ∀ x ∈ opnds o, opv env' x = opv env x) : opD P Γ call env' M nx o = opD P Γ call env M nx o := by
  unfold opD
  rw [xop_env h]
  split
  · rfl
  · cases o <;> first | rfl | skip
    rename_i c _
    simp only [calleeX_env h]
theorem guardX_env {all : List Oper} {g : Option (Nat × Bool)} (h : ∀ j want d, g = some (j, want) → slotX all j = some d → tget env' d = tget env d) : guardX all env' g = guardX all env g := by
  unfold guardX
  split
  · rfl
  · rename_i j want
    split
    · rfl
    · rename_i d hd
      rw [h j want d rfl hd]
theorem Step.move {all : List Oper} {o : Oper} {x : Ent} {s s' : PS} (h : Step P Γ call all o x s) (h1 : ∀ t ∈ rslots all o, tget s'.1 t = tget s.1 t) (h2 : ∀ k ∈ x.rd, tget s'.2 k = tget s.2 k) :
    Step P Γ call all o x s' := by
  have hg : guardX all s'.1 o.guard = guardX all s.1 o.guard := guardX_env fun j want d q1 q2 => h1 d (by
    simp only [rslots, List.mem_append]
    exact .inr (by simp [q1, q2]))
  have hop : ∀ x ∈ opnds o.op, opv s'.1 x = opv s.1 x := fun y hy => by
    cases y with
    | tmp t =>
      simp only [opv]
      rw [h1 t (by simp only [rslots, List.mem_append, List.mem_filterMap]; exact .inl ⟨.tmp t, hy, rfl⟩)]
    | const v => rfl
    | func f => rfl
    | global g => rfl
  obtain ⟨hd, h⟩ := h
  refine ⟨hd, ?_⟩
  rcases h with ⟨q, e, ha, e1, e2, e3⟩ | ⟨q, r⟩
  · refine .inl ⟨by rw [hg]; exact q, e, ?_, e1, e2, e3⟩
    rw [opD_env hop]
    exact opD_loc ha (by rw [← e2]; exact h2)
  · exact .inr ⟨by rw [hg]; exact q, r⟩
/-! the orders -/
def edges (o : Oper) : List Nat := (o.after.toList.filter (fun e => Region.binds .any e)).map (·.on)
def Closed (ops : List Oper) (S : Nat → Bool) : Prop := ∀ i o, ops[i]? = some o → S i = true → ∀ e ∈ edges o, S e = true
theorem ancGo_closed {ops : List Oper} {S : Nat → Bool} {j : Nat} (hc : Closed ops S) (hj : ∀ o, ops[j]? = some o → ∀ e ∈ edges o, S e = true) : ∀ (i : Nat) (acc : List Nat), (∀ k ∈ acc, k = j ∨ S k = true) → ∀ k ∈ ancGo ops i acc, k = j ∨ S k = true
  | 0, _, h, k, hk => h k hk
  | i + 1, acc, h, k, hk => by
    unfold ancGo at hk
    split at hk
    · exact ancGo_closed hc hj i acc h k hk
    · rename_i hm
      refine ancGo_closed hc hj i _ (fun k hk => ?_) k hk
      rcases List.mem_append.1 hk with hk | hk
      · exact h k hk
      · split at hk
        · rename_i o ho
          rcases h i ((lmem_iff _ _).1 hm) with rfl | hS
          · exact .inr (hj o ho k hk)
          · exact .inr (hc i o ho hS k hk)
        · cases hk
theorem anc_closed {ops : List Oper} {S : Nat → Bool} {j : Nat} (hc : Closed ops S) (hj : ∀ o, ops[j]? = some o → ∀ e ∈ edges o, S e = true) {k : Nat} (hk : lmem (anc ops j) k = true) : k = j ∨ S k = true :=
  ancGo_closed hc hj (j + 1) [j] (fun k hk => .inl (List.mem_singleton.1 hk)) k ((lmem_iff _ _).1 hk)
def edgesOk (ops : List Oper) : Bool := (List.range ops.length).all fun i => match ops[i]? with | some o => (edges o).all fun e => Nat.blt e i | none => true
theorem edgesOk_iff {ops : List Oper} (h : edgesOk ops = true) {i : Nat} {o : Oper} (ho : ops[i]? = some o) : ∀ e ∈ edges o, e < i := by
  intro e he
  have hi : i < ops.length := (List.getElem?_eq_some_iff.1 ho).1
  have := List.all_eq_true.1 h i (List.mem_range.2 hi)
  rw [ho] at this
  have := List.all_eq_true.1 this e he
  rw [Nat.blt] at this
  exact Nat.le_of_ble_eq_true this
def clash (all : List Oper) (x y : Oper) : Bool :=
  (match x.dst with | some d => lmem (rslots all y) d || (match y.dst with | some d' => Nat.beq d d' | none => false) | none => false) ||
  (match y.dst with | some d => lmem (rslots all x) d | none => false)
def slotsOk (ops : List Oper) : Bool := (List.range ops.length).all fun k => match ops[k]? with
  | some y => (List.range k).all fun j => match ops[j]? with | some x => !clash ops x y || lmem (anc ops k) j | none => true
  | none => true
theorem slotsOk_iff {ops : List Oper} (h : slotsOk ops = true) {j k : Nat} {x y : Oper} (hx : ops[j]? = some x) (hy : ops[k]? = some y) (hjk : j < k) (hc : clash ops x y = true) : lmem (anc ops k) j = true := by
  have hk : k < ops.length := (List.getElem?_eq_some_iff.1 hy).1
  have := List.all_eq_true.1 h k (List.mem_range.2 hk)
  rw [hy] at this
  have := List.all_eq_true.1 this j (List.mem_range.2 hjk)
  rw [hx] at this
  simpa [hc] using this
def apartL (x y : Nat × List Nat × List Nat) : Prop := (∀ k ∈ x.2.2, k ∉ y.2.1 ∧ k ∉ y.2.2) ∧ ∀ k ∈ y.2.2, k ∉ x.2.1
theorem okPair_iff {ops : List Oper} {x y : Nat × List Nat × List Nat} (h : okPair ops x y = true) : apartL x y ∨ lmem (anc ops y.1) x.1 = true ∨ lmem (anc ops x.1) y.1 = true := by
  simp only [okPair, Bool.or_eq_true, Bool.and_eq_true] at h
  rcases h with (⟨⟨h1, h2⟩, h3⟩ | h) | h
  · exact .inl ⟨fun k hk => ⟨disj_iff h1 k hk, disj_iff h2 k hk⟩, fun k hk => disj_iff h3 k hk⟩
  · exact .inr (.inl h)
  · exact .inr (.inr h)
theorem logX_suffix {ops : List Oper} : ∀ (xs : List Ent) (i : Nat) (l : List (Nat × List Nat × List Nat)), okLog ops (logX xs i l) = true → okLog ops l = true ∧
    ∀ j x, xs[j]? = some x → ∀ p ∈ l, apartL (i + j, x.rd, ukeys x.upd) p ∨ lmem (anc ops p.1) (i + j) = true ∨ lmem (anc ops (i + j)) p.1 = true
  | [], _, l, h => ⟨h, fun j x h => by simp at h⟩
  | x :: xs, i, l, h => by
    obtain ⟨h1, h2⟩ := logX_suffix xs (i + 1) _ h
    have hl : ∀ p ∈ l, p ∈ logOf i ⟨.un, x.rd, x.upd⟩ l := fun p hp => by
      unfold logOf
      split
      · exact hp
      · exact List.mem_cons_of_mem _ hp
    have h3 : okLog ops l = true ∧ ∀ p ∈ l, apartL (i, x.rd, ukeys x.upd) p ∨ lmem (anc ops p.1) i = true ∨ lmem (anc ops i) p.1 = true := by
      unfold logOf at h1
      split at h1
      · rename_i e1 e2
        simp only at e1 e2
        exact ⟨h1, fun p _ => .inl ⟨by simp [e2, ukeys], by simp [e1]⟩⟩
      · simp only [okLog, Bool.and_eq_true] at h1
        exact ⟨h1.2, fun p hp => okPair_iff (List.all_eq_true.1 h1.1 p hp)⟩
    refine ⟨h3.1, fun j y hj p hp => ?_⟩
    cases j with
    | zero =>
      simp only [List.getElem?_cons_zero, Option.some.injEq] at hj
      subst hj
      exact h3.2 p hp
    | succ j =>
      have := h2 j y (by simpa using hj) p (hl p hp)
      rwa [show i + 1 + j = i + (j + 1) by omega] at this
theorem logX_pair {ops : List Oper} : ∀ (xs : List Ent) (i : Nat) (l : List (Nat × List Nat × List Nat)), okLog ops (logX xs i l) = true → ∀ j k x y, xs[j]? = some x → xs[k]? = some y → j < k →
    apartL (i + k, y.rd, ukeys y.upd) (i + j, x.rd, ukeys x.upd) ∨ lmem (anc ops (i + j)) (i + k) = true ∨ lmem (anc ops (i + k)) (i + j) = true
  | [], _, _, _, j, _, _, _, hj, _, _ => by simp at hj
  | x0 :: xs, i, l, h, j, k, x, y, hj, hk, hjk => by
    cases k with
    | zero => omega
    | succ k =>
      simp only [List.getElem?_cons_succ] at hk
      cases j with
      | succ j =>
        simp only [List.getElem?_cons_succ] at hj
        have := logX_pair xs (i + 1) _ h j k x y hj hk (by omega)
        rwa [show i + 1 + j = i + (j + 1) by omega, show i + 1 + k = i + (k + 1) by omega] at this
      | zero =>
        simp only [List.getElem?_cons_zero, Option.some.injEq] at hj
        subst hj
        obtain ⟨_, h2⟩ := logX_suffix xs (i + 1) _ h
        by_cases he : x0.rd = [] ∧ x0.upd = []
        · exact .inl ⟨by simp [he.1, he.2, ukeys], by simp [he.2, ukeys]⟩
        · have hm : (i, x0.rd, ukeys x0.upd) ∈ logOf i ⟨.un, x0.rd, x0.upd⟩ l := by
            unfold logOf
            split
            · rename_i e1 e2
              exact (he ⟨e1, e2⟩).elim
            · exact List.mem_cons_self
          have := h2 k y hk _ hm
          rwa [show i + 1 + k = i + (k + 1) by omega] at this
end
end
end Go.Xn
/- A region that draws its order: on the machine. -/
namespace Go.Xn
set_option linter.all false
set_option linter.deprecated false
noncomputable section
section
variable {P : Program} {a : Act} {w w' w0 : World} {ρ : Rho} {σ σ' σ0 : Sig} {M N M' M0 : Hp} {Γ : Facts} {call : CallF} {env env' : Env} {ds : List Deferred} {nx0 n : Nat} {fr : Option Nat}

/-- where the machine stands, but for the free numbers -/
structure Sd (ds : List Deferred) (ρ : Rho) (w0 : World) (σ0 : Sig) (M0 : Hp) (nx0 n : Nat) (s : PS) (a : Act) (w : World) (σ : Sig) : Prop where
  envr : EnvR ρ σ s.1 a.tmps
  size : a.tmps.size = n
  ok : Ok ρ w σ s.2
  ext : Ext w0 σ0 M0 w σ s.2
  old : ∀ k, σ k = σ0 k ∨ nx0 ≤ k
  def0 : a.defers = ds
theorem Owned.congr {N : Hp} (h : ∀ k, tget N k = tget M k) {b : Nat} : Owned σ N b ↔ Owned σ M b :=
  ⟨fun ⟨k, o, p, q, r⟩ => ⟨k, o, p, by rw [← h]; exact q, r⟩, fun ⟨k, o, p, q, r⟩ => ⟨k, o, p, by rw [h]; exact q, r⟩⟩
theorem Ext.congr {N : Hp} (h : ∀ k, tget N k = tget M k) (e : Ext w0 σ0 M0 w σ M) : Ext w0 σ0 M0 w σ N :=
  ⟨e.os, e.tape, e.output, e.size, e.blk, fun b hb => e.own b ((Owned.congr h).1 hb), e.sig, fun b ⟨k, o, p, q, r⟩ => e.held b ⟨k, o, p, by rw [← h]; exact q, r⟩⟩
theorem Sd.congr {s s' : PS} (h : Sd ds ρ w0 σ0 M0 nx0 n s a w σ) (h1 : ∀ t, tget s'.1 t = tget s.1 t) (h2 : ∀ k, tget s'.2 k = tget s.2 k) : Sd ds ρ w0 σ0 M0 nx0 n s' a w σ :=
  ⟨fun t v hv => h.envr t v (by rw [← h1]; exact hv), h.size, h.ok.sub fun k x hk => by rw [← h2]; exact hk, h.ext.congr h2, h.old, h.def0⟩
theorem Sd.step {x : Ent} {s : PS} {v : Value} (h : Sd ds ρ w0 σ0 M0 nx0 n s a w σ) (hd : ∀ t, x.dst = some t → t < n) (hlo : nx0 ≤ x.lo) (hp : CPost ρ w σ s.2 x.lo (x.val, happ s.2 x.upd, x.hi) v w') :
    ∃ σ', Sd ds ρ w0 σ0 M0 nx0 n (x.app s) (a.put x.dst v) w' σ' ∧ ∀ k, σ' k = σ k ∨ (x.lo ≤ k ∧ k < x.hi) := by
  obtain ⟨σ', h1, h2, h3, h4, h5⟩ := hp
  have hput : putX a.tmps.size s.1 x.dst x.val = some (setE s.1 x.dst x.val) := by
    cases hx : x.dst with
    | none => rfl
    | some t =>
      have := hd t hx
      rw [← h.size] at this
      have hb : Nat.blt t a.tmps.size = true := by rw [Nat.blt_eq]; exact this
      simp only [putX, setE, hb]
  refine ⟨σ', ⟨EnvR.put (h.envr.mono h3.sig) hput h1, by rw [put_size]; exact h.size, h2, h.ext.trans h3, fun k => ?_, by rw [put_defers]; exact h.def0⟩, h5⟩
  rcases h5 k with e | ⟨e1, e2⟩
  · rw [e]; exact h.old k
  · right; omega
theorem Sd.skip {x : Ent} {s : PS} (h : Sd ds ρ w0 σ0 M0 nx0 n s a w σ) (hd : ∀ t, x.dst = some t → t < n) (hv : x.val = .udf) (hu : x.upd = []) : Sd ds ρ w0 σ0 M0 nx0 n (x.app s) (a.put x.dst undef) w σ := by
  have hput : putX a.tmps.size s.1 x.dst x.val = some (setE s.1 x.dst x.val) := by
    cases hx : x.dst with
    | none => rfl
    | some t =>
      have := hd t hx
      rw [← h.size] at this
      have hb : Nat.blt t a.tmps.size = true := by rw [Nat.blt_eq]; exact this
      simp only [putX, setE, hb]
  exact ⟨EnvR.put h.envr hput (by rw [hv]; simp only [VR]), by rw [put_size]; exact h.size, by simp only [Ent.app, hu, happ]; exact h.ok, by simp only [Ent.app, hu, happ]; exact h.ext, h.old, by rw [put_defers]; exact h.def0⟩
theorem opD_nd {nx hi : Nat} {o : Op} {e : Eff} (h : opD P Γ call env M nx o = some (e, hi)) : ∀ c, o ≠ .defer c := by
  intro c hc; subst hc; simp [opD, xop] at h
/-- one operation, whenever its turn comes -/
theorem Step.run (hΓ : ∀ i op c b k, Γ i op c = some b → binInt op k (ρ i) k c = some (.bool b)) (hcall : CallOk P ρ call) {all : List Oper} {Q : Exit → Act → World → Prop} {K : Act → World → Prop} {i : Nat} {o : Oper} {x : Ent} {s : PS}
    (ho : all[i]? = some o) (h : Step P Γ call all o x s) (hs : Sd ds ρ w0 σ0 M0 nx0 n s a w σ) (hd0 : ∀ t, x.dst = some t → t < n) (hlo : nx0 ≤ x.lo) (hf : ∀ k, x.lo ≤ k → k < x.hi → σ k = none)
    (hK : ∀ a' w' σ', Sd ds ρ w0 σ0 M0 nx0 n (x.app s) a' w' σ' → (∀ k, σ' k = σ k ∨ (x.lo ≤ k ∧ k < x.hi)) → K a' w') : wpOpIn (FW fr) 0 P all.toArray Q i K a w := by
  unfold wpOpIn
  simp only [List.getElem?_toArray, ho]
  obtain ⟨hd, ⟨hg, e, ha, e1, e2, e3⟩ | ⟨hg, e1, e2, e3, _⟩⟩ := h
  · rw [guard_ok hs.envr hg, if_pos rfl]
    refine opIn (opD_nd ha) (opD_ok hΓ hcall hs.ok hs.envr hf ha K Q fun v w' hp => ?_)
    rw [← e1, ← e3] at hp
    obtain ⟨σ', g1, g2⟩ := hs.step hd0 hlo hp
    rw [← hd]
    exact hK _ _ σ' g1 g2
  · rw [guard_ok hs.envr hg, if_neg (by simp), ← hd]
    exact ⟨fun f _ => FW_fn fr f, hK _ _ σ (hs.skip hd0 e1 e3) fun _ => .inl rfl⟩

theorem countP_lt {p q : Nat → Bool} : ∀ {l : List Nat}, (∀ x ∈ l, q x = true → p x = true) → (∃ x ∈ l, p x = true ∧ q x = false) → (l.filter q).length < (l.filter p).length
  | [], _, ⟨x, hx, _⟩ => by cases hx
  | y :: l, h, ⟨x, hx, h1, h2⟩ => by
    have hle : ∀ {l : List Nat}, (∀ x ∈ l, q x = true → p x = true) → (l.filter q).length ≤ (l.filter p).length := by
      intro l
      induction l with
      | nil => simp
      | cons z l ih =>
        intro h
        have := ih fun x hx => h x (List.mem_cons_of_mem _ hx)
        have hz := h z List.mem_cons_self
        simp only [List.filter]
        cases hq : q z <;> cases hp : p z <;> simp_all <;> omega
    have hl := fun x hx => h x (List.mem_cons_of_mem _ hx)
    simp only [List.filter]
    rcases List.mem_cons.1 hx with rfl | hx
    · rw [h1, h2]
      have := hle hl
      simp only [List.length_cons]
      omega
    · have := countP_lt hl ⟨x, hx, h1, h2⟩
      have hy := h y List.mem_cons_self
      cases hq : q y <;> cases hp : p y <;> simp_all <;> omega
def dn (listed : Array Bool) (i : Nat) : Bool := listed.getD i false
theorem dn_set {listed : Array Bool} {i : Nat} (hi : i < listed.size) (j : Nat) : dn (listed.setIfInBounds i true) j = (dn listed j || decide (j = i)) := by
  simp only [dn, Array.getD_eq_getD_getElem?]
  by_cases h : i = j
  · subst h
    simp [hi]
  · rw [Array.getElem?_setIfInBounds_ne h]
    have h' : ¬ j = i := fun e => h e.symm
    simp [h']
theorem ready_iff {ops : List Oper} {listed : Array Bool} (hsz : listed.size = ops.length) {i : Nat} : i ∈ Region.ready .any ops.toArray listed ↔ ∃ o, ops[i]? = some o ∧ dn listed i = false ∧ ∀ e ∈ edges o, dn listed e = true := by
  simp only [Region.ready, List.mem_filter, List.mem_range, List.size_toArray, Bool.and_eq_true, Bool.not_eq_true', List.getElem?_toArray]
  constructor
  · rintro ⟨hi, h1, h2⟩
    obtain ⟨o, ho⟩ : ∃ o, ops[i]? = some o := ⟨ops[i], by simp [hi]⟩
    rw [ho] at h2
    simp only [Option.map_some, Option.getD_some, Array.all_eq_true'] at h2
    refine ⟨o, ho, ?_, fun e he => ?_⟩
    · simp only [dn, Array.getD_eq_getD_getElem?] at h1 ⊢
      have : i < listed.size := by omega
      simp [this] at h1 ⊢
      exact h1
    · simp only [edges, List.mem_map, List.mem_filter, Array.mem_toList_iff] at he
      obtain ⟨ed, ⟨hm, hb⟩, rfl⟩ := he
      have := h2 ed hm
      simpa [hb, dn] using this
  · rintro ⟨o, ho, h1, h2⟩
    have hi : i < ops.length := (List.getElem?_eq_some_iff.1 ho).1
    refine ⟨hi, ?_, ?_⟩
    · simp only [dn, Array.getD_eq_getD_getElem?] at h1 ⊢
      have : i < listed.size := by omega
      simp [this] at h1 ⊢
      exact h1
    · rw [ho]
      simp only [Option.map_some, Option.getD_some, Array.all_eq_true']
      intro ed hm
      cases hb : Region.binds .any ed with
      | false => rfl
      | true =>
        have := h2 ed.on (by simp only [edges, List.mem_map, List.mem_filter, Array.mem_toList_iff]; exact ⟨ed, ⟨hm, hb⟩, rfl⟩)
        simpa [dn] using this
theorem clash_of {all : List Oper} {x y : Oper} {d : Nat} (h : x.dst = some d) (h' : d ∈ rslots all y) : clash all x y = true := by
  simp only [clash, h]
  rw [(lmem_iff _ _).2 h']
  rfl
theorem clash_of' {all : List Oper} {x y : Oper} {d : Nat} (h : y.dst = some d) (h' : d ∈ rslots all x) : clash all x y = true := by
  simp only [clash, h]
  rw [(lmem_iff _ _).2 h']
  simp
theorem clash_dst {all : List Oper} {x y : Oper} {d : Nat} (h : x.dst = some d) (h' : y.dst = some d) : clash all x y = true := by
  simp only [clash, h, h', Nat.beq_refl]
  simp

theorem Ranges.le : ∀ {lo : Nat} {xs : List Ent} {hi : Nat}, Ranges lo xs hi → lo ≤ hi
  | _, [], _, h => Nat.le_of_eq h
  | _, x :: xs, _, h => by
    obtain ⟨h1, h2, h3⟩ := h
    have := h3.le
    omega
theorem Ranges.get : ∀ {lo : Nat} {xs : List Ent} {hi : Nat}, Ranges lo xs hi → ∀ {i : Nat} {x : Ent}, xs[i]? = some x → lo ≤ x.lo ∧ x.lo ≤ x.hi ∧ x.hi ≤ hi
  | _, [], _, _, _, _, h => by simp at h
  | _, y :: xs, _, h, i, x, hx => by
    obtain ⟨h1, h2, h3⟩ := h
    cases i with
    | zero =>
      simp only [List.getElem?_cons_zero, Option.some.injEq] at hx
      subst hx
      have := h3.le
      omega
    | succ i =>
      have := h3.get (i := i) (by simpa using hx)
      omega
theorem Ranges.apart : ∀ {lo : Nat} {xs : List Ent} {hi : Nat}, Ranges lo xs hi → ∀ {i j : Nat} {x y : Ent}, xs[i]? = some x → xs[j]? = some y → i < j → x.hi ≤ y.lo
  | _, [], _, _, _, _, _, _, h, _, _ => by simp at h
  | _, z :: xs, _, h, i, j, x, y, hx, hy, hij => by
    obtain ⟨h1, h2, h3⟩ := h
    cases j with
    | zero => omega
    | succ j =>
      cases i with
      | zero =>
        simp only [List.getElem?_cons_zero, Option.some.injEq] at hx
        subst hx
        exact (h3.get (i := j) (by simpa using hy)).1
      | succ i => exact h3.apart (i := i) (j := j) (by simpa using hx) (by simpa using hy) (by omega)
theorem wpAny_plan (hΓ : ∀ i op c b k, Γ i op c = some b → binInt op k (ρ i) k c = some (.bool b)) (hcall : CallOk P ρ call) {ops : List Oper} {base top : Nat} {Q : Exit → Act → World → Prop} {xs : List Ent} {s0 : PS}
    (he : edgesOk ops = true) (hsl : slotsOk ops = true) (hlog : okLog ops (logX xs 0 []) = true) (hlen : xs.length = ops.length)
    (hplan : ∀ j o x, ops[j]? = some o → xs[j]? = some x → Step P Γ call ops o x (runS (fun _ => true) (xs.take j) 0 s0))
    (hrange : Ranges base xs top) (hbase : nx0 ≤ base) (hdn : ∀ x ∈ xs, ∀ t, x.dst = some t → t < n)
    (hQ : ∀ a' w' σ', Sd ds ρ w0 σ0 M0 nx0 n (runS (fun _ => true) xs 0 s0) a' w' σ' → (∀ k, top ≤ k → σ' k = none) → Q .normal a' w') :
    ∀ (fuel : Nat) (listed : Array Bool) (a : Act) (w : World) (σ : Sig), listed.size = ops.length → ((List.range ops.length).filter fun i => !dn listed i).length ≤ fuel →
      Closed ops (dn listed) → Sd ds ρ w0 σ0 M0 nx0 n (runS (dn listed) xs 0 s0) a w σ → (∀ k, base ≤ k → (∀ (i : Nat) (x : Ent), xs[i]? = some x → dn listed i = true → ¬ (x.lo ≤ k ∧ k < x.hi)) → σ k = none) →
      wpAnyIn (FW fr) 0 P .any ops.toArray Q fuel listed a w := by
  have fin : ∀ (listed : Array Bool) (a : Act) (w : World) (σ : Sig), listed.size = ops.length → 
      Sd ds ρ w0 σ0 M0 nx0 n (runS (dn listed) xs 0 s0) a w σ → (∀ k, base ≤ k → (∀ (i : Nat) (x : Ent), xs[i]? = some x → dn listed i = true → ¬ (x.lo ≤ k ∧ k < x.hi)) → σ k = none) → 
      (∀ i, i < ops.length → dn listed i = true) → Q .normal a w := by
    intro listed a w σ hsz hs hf hall
    rw [runS_all (S' := fun _ => true) xs 0 s0 (fun j hj => by rw [Nat.zero_add]; exact hall j (by omega))] at hs
    exact hQ a w σ hs fun k hk => hf k (by have := hrange.le; omega) fun i x hx _ => by have := hrange.get hx; omega
  have allOf : ∀ (listed : Array Bool), listed.size = ops.length → Region.ready .any ops.toArray listed = [] → ∀ i, i < ops.length → dn listed i = true := by
    intro listed hsz hr i
    induction i using Nat.strongRecOn with
    | _ i ih =>
      intro hi
      cases hd : dn listed i with
      | true => rfl
      | false =>
        have ho : ops[i]? = some ops[i] := by simp [hi]
        have : i ∈ Region.ready .any ops.toArray listed := (ready_iff hsz).2 ⟨_, ho, hd, fun e hm => ih e (edgesOk_iff he ho e hm) (by have := edgesOk_iff he ho e hm; omega)⟩
        rw [hr] at this
        cases this
  intro fuel
  induction fuel with
  | zero =>
    intro listed a w σ hsz hcnt hcl hs hf
    have hall : ∀ i, i < ops.length → dn listed i = true := by
      intro i hi
      cases hd : dn listed i with
      | true => rfl
      | false =>
        have hm : i ∈ (List.range ops.length).filter fun i => !dn listed i := by simp [hi, hd]
        have := List.length_pos_of_mem hm
        omega
    refine ⟨?_, fin listed a w σ hsz hs hf hall⟩
    cases hr : Region.ready .any ops.toArray listed with
    | nil => rfl
    | cons i l =>
      have : i ∈ Region.ready .any ops.toArray listed := by rw [hr]; exact List.mem_cons_self
      obtain ⟨o, ho, h1, _⟩ := (ready_iff hsz).1 this
      rw [hall i (List.getElem?_eq_some_iff.1 ho).1] at h1
      cases h1
  | succ fuel ih =>
    intro listed a w σ hsz hcnt hcl hs hf
    refine ⟨fun hr => fin listed a w σ hsz hs hf (allOf listed hsz hr), fun i hi => ?_⟩
    obtain ⟨o, ho, hd, hpre⟩ := (ready_iff hsz).1 hi
    have hil : i < ops.length := (List.getElem?_eq_some_iff.1 ho).1
    obtain ⟨x, hx⟩ : ∃ x, xs[i]? = some x := ⟨xs[i], by simp [hlen, hil]⟩
    have dstOf : ∀ (j : Nat) (y : Ent) (o' : Oper), xs[j]? = some y → ops[j]? = some o' → y.dst = o'.dst := fun j y o' h1 h2 => (hplan j o' y h2 h1).1
    have opOf : ∀ (j : Nat) (y : Ent), xs[j]? = some y → ∃ o', ops[j]? = some o' := fun j y h => ⟨ops[j]'(by have := (List.getElem?_eq_some_iff.1 h).1; omega), by simp⟩
    -- what must come ahead of it has come, what must follow has not
    have ahead : ∀ j, lmem (anc ops i) j = true → j = i ∨ dn listed j = true := fun j hj => anc_closed hcl (fun o' ho' e hm => by rw [ho] at ho'; cases ho'; exact hpre e hm) hj
    have behind : ∀ j, dn listed j = true → lmem (anc ops j) i = true → j = i := fun j hj hn => by
      rcases anc_closed (j := j) hcl (fun o' ho' => hcl j o' ho' hj) hn with h | h
      · exact h.symm
      · rw [hd] at h; cases h
    have clashed : ∀ (j : Nat) (y : Ent) (o' : Oper), xs[j]? = some y → ops[j]? = some o' → j ≠ i → (j < i → clash ops o' o = true) → (i < j → clash ops o o' = true) → dn listed j = decide (j < i) := by
      intro j y o' hj ho' hne c1 c2
      by_cases hlt : j < i
      · rcases ahead j (slotsOk_iff hsl ho' ho hlt (c1 hlt)) with h | h
        · exact (hne h).elim
        · rw [h]; simp [hlt]
      · cases hS : dn listed j with
        | false => simp [hlt]
        | true => exact (hne (behind j hS (slotsOk_iff hsl ho ho' (by omega) (c2 (by omega))))).elim
    have keyed : ∀ (j : Nat) (y : Ent), xs[j]? = some y → j ≠ i → ¬ apartL (if j < i then (i, x.rd, ukeys x.upd) else (j, y.rd, ukeys y.upd)) (if j < i then (j, y.rd, ukeys y.upd) else (i, x.rd, ukeys x.upd)) → dn listed j = decide (j < i) := by
      intro j y hj hne hap
      by_cases hlt : j < i
      · rw [if_pos hlt, if_pos hlt] at hap
        have := logX_pair xs 0 [] hlog j i y x hj hx hlt
        simp only [Nat.zero_add] at this
        rcases this with h | h | h
        · exact (hap h).elim
        · have hlow : i ≤ j := by
            obtain ⟨o', ho'⟩ := opOf j y hj
            have hc : Closed ops (fun e => decide (e < j)) := fun i' o2 ho2 h2 e hm => by
              have := edgesOk_iff he ho2 e hm
              simp at h2 ⊢; omega
            rcases anc_closed (j := j) hc (fun o2 ho2 e hm => by have := edgesOk_iff he ho2 e hm; simpa using this) h with h | h
            · omega
            · simp at h; omega
          omega
        · rcases ahead j h with h | h
          · exact (hne h).elim
          · rw [h]; simp [hlt]
      · rw [if_neg hlt, if_neg hlt] at hap
        have := logX_pair xs 0 [] hlog i j x y hx hj (by omega)
        simp only [Nat.zero_add] at this
        cases hS : dn listed j with
        | false => simp [hlt]
        | true =>
          rcases this with h | h | h
          · exact (hap h).elim
          · rcases ahead j h with h | h
            · exact (hne h).elim
            · have hc : Closed ops (fun e => decide (e < i)) := fun i' o2 ho2 h2 e hm => by
                have := edgesOk_iff he ho2 e hm
                simp at h2 ⊢; omega
              rcases anc_closed (j := i) hc (fun o2 ho2 e hm => by have := edgesOk_iff he ho2 e hm; simpa using this) ‹_› with h | h
              · omega
              · simp at h; omega
          · exact (hne (behind j hS h)).elim
    have hst : Step P Γ call ops o x (runS (dn listed) xs 0 s0) := by
      have h0 := hplan i o x ho hx
      rw [runS_take] at h0
      refine h0.move (fun t ht => ?_) fun k hk => ?_
      · refine runS_slot xs 0 _ _ rfl fun j y hj hy => ?_
        rw [Nat.zero_add]
        by_cases hji : j = i
        · subst hji; rw [hd]; simp
        · obtain ⟨o', ho'⟩ := opOf j y hj
          have hdo := dstOf j y o' hj ho'
          rw [hdo] at hy
          exact clashed j y o' hj ho' hji (fun _ => clash_of hy ht) fun _ => clash_of' hy ht
      · refine runS_key xs 0 _ _ rfl fun j y hj hy => ?_
        rw [Nat.zero_add]
        by_cases hji : j = i
        · subst hji; rw [hd]; simp
        · refine keyed j y hj hji fun hap => ?_
          by_cases hlt : j < i
          · rw [if_pos hlt, if_pos hlt] at hap
            exact hap.2 k hy hk
          · rw [if_neg hlt, if_neg hlt] at hap
            exact (hap.1 k hy).1 hk
    have hri := hrange.get hx
    refine Step.run hΓ hcall ho hst hs (hdn x (List.mem_of_getElem? hx)) (by omega) (fun k h1 h2 => ?_) fun a' w' σ' hs' hσ => ?_
    · refine hf k (by omega) fun j y hj hS hjk => ?_
      have : j = i := by
        rcases Nat.lt_trichotomy j i with h | h | h
        · have := hrange.apart hj hx h; omega
        · exact h
        · have := hrange.apart hx hj h; omega
      subst this
      rw [hd] at hS; cases hS
    · obtain ⟨r1, r2⟩ := runS_add (s := s0) hx hd (fun j y hj hij hS t h1 h2 => by
        obtain ⟨o', ho'⟩ := opOf j y hj
        have q1 := dstOf j y o' hj ho'
        have q2 := dstOf i x o hx ho
        rw [q1] at h2
        rw [q2] at h1
        have := behind j hS (slotsOk_iff hsl ho ho' hij (clash_dst h1 h2))
        omega) fun j y hj hij hS k h1 h2 => by
          have := keyed j y hj (by omega) fun hap => by
            rw [if_neg (by omega), if_neg (by omega)] at hap
            exact (hap.1 k h2).2 h1
          rw [hS] at this
          simp at this
          omega
      have hdn : dn (listed.setIfInBounds i true) = fun j => dn listed j || decide (j = i) := funext fun j => dn_set (by omega) j
      have hS' : ∀ j, dn (listed.setIfInBounds i true) j = true ↔ (dn listed j = true ∨ j = i) := fun j => by rw [hdn]; simp
      refine ih (listed.setIfInBounds i true) a' w' σ' (by simp [hsz]) ?_ ?_ ?_ ?_
      · have := countP_lt (l := List.range ops.length) (p := fun j => !dn listed j) (q := fun j => !dn (listed.setIfInBounds i true) j) (fun j _ hj => by
          rw [hdn] at hj
          simp at hj ⊢
          exact hj.1) ⟨i, by simp [hil], by simp [hd], by rw [hdn]; simp⟩
        omega
      · intro j o' ho' hj e hm
        rcases (hS' j).1 hj with h | rfl
        · exact (hS' e).2 (.inl (hcl j o' ho' h e hm))
        · rw [ho] at ho'
          cases ho'
          exact (hS' e).2 (.inl (hpre e hm))
      · rw [hdn]
        exact hs'.congr r1 r2
      · intro k hk hno
        rcases hσ k with h | h
        · rw [h]
          exact hf k hk fun j y hj hjS => hno j y hj ((hS' j).2 (.inl hjS))
        · exact (hno i x hx ((hS' i).2 (.inr rfl)) h).elim
end
end
end Go.Xn
/- Code and functions, run. -/
namespace Go.Xn
set_option linter.all false
set_option linter.deprecated false
noncomputable section
inductive AExit where
  | normal | exit (id : Nat) | ret
def AExit.to : AExit → Exit
  | .normal => .normal
  | .exit id => .exit id
  | .ret => .ret
def loopX (f : XS → Option (List (AExit × XS))) : Nat → XS → Option (List (AExit × XS))
  | 0, _ => none
  | k + 1, s => match f s with
    | none => none
    | some L => collect L fun r => match r.1 with
      | .normal => loopX f k r.2
      | _ => some [r]
def inBlockX (id : Nat) (r : AExit × XS) : AExit × XS := match r.1 with
  | .exit i => match Nat.beq i id with | true => (.normal, r.2) | false => r
  | _ => r
def putPs (n : Nat) : List Nat → List XV → Env → Option Env
  | [], [], env => some env
  | p :: ps, v :: vs, env => match putX n env (some p) v with
    | some env => putPs n ps vs env
    | none => none
  | _, _, _ => none
/-- a function that is ranged over -/
abbrev IterF := Nat → List XV → Nat × YH → Hp → Nat → Option (List (Hp × Nat))
def noIter : IterF := fun _ _ _ _ _ => none
/-- a round: the assignments, the body -/
def roundX (f g : XS → Option (List (AExit × XS))) (n : Nat) (ps : List Nat) (env : Env) : YH := fun args M nx => match putPs n ps args env with
  | none => none
  | some env => match f ⟨env, M, nx⟩ with
    | none => none
    | some L => collect L fun r => match r.1 with
      | .normal => match g r.2 with
        | none => none
        | some L => collect L fun r => match r.1 with
          | .normal => some [(r.2.M, r.2.nx)]
          | _ => none
      | _ => none
/-- code -/
def runC (P : Program) (Γ : Facts) (call : CallF) (iter : IterF) (Y : Option (Nat × YH)) (n fuel : Nat) : Code → XS → Option (List (AExit × XS))
  | .skip, s => some [(.normal, s)]
  | .ret, s => some [(.ret, s)]
  | .exit id, s => some [(.exit id, s)]
  | .seq a b, s => match runC P Γ call iter Y n fuel a s with
    | none => none
    | some L => collect L fun r => match r.1 with
      | .normal => runC P Γ call iter Y n fuel b r.2
      | _ => some [r]
  | .block id c, s => match runC P Γ call iter Y n fuel c s with
    | none => none
    | some L => some (L.map (inBlockX id))
  | .cond c a b, s => match opv s.env c with
    | .bool true => runC P Γ call iter Y n fuel a s
    | .bool false => runC P Γ call iter Y n fuel b s
    | _ => none
  | .loop c, s => loopX (runC P Γ call iter Y n fuel c) fuel s
  | .region _ ops draw, s => match draw with
    | false => match regN P Γ call Y n ops.toList ops.toList s with
      | none => none
      | some L => some (L.map fun s => (.normal, s))
    | true => match edgesOk ops.toList, slotsOk ops.toList, regD P Γ call n ops.toList ops.toList 0 s [] with
      | true, true, some (s', log) => match okLog ops.toList log with
        | true => some [(.normal, s')]
        | false => none
      | _, _, _ => none
  | .rangeFunc g ps asg body, s => match opv s.env g with
    | .fn (.func h) [] caps => match iter h (.yd s.nx :: caps) (s.nx, roundX (runC P Γ call noIter none n fuel asg) (runC P Γ call noIter none n fuel body) n ps.toList s.env) s.M (s.nx + 1) with
      | some L => some (L.map fun r => (.normal, ⟨s.env, r.1, r.2⟩))
      | none => none
    | _ => none
  | _, _ => none
def resX (P : Program) (s : XS) : ResultVar → Option XV
  | .tmp t => tget s.env t
  | .cell a t => match tget s.env a with
    | some x => match loadX P s.M t x with | some e => some e.val | none => none
    | none => none
def resXs (P : Program) (s : XS) : List ResultVar → Option (List XV)
  | [] => some []
  | r :: rs => match resX P s r with
    | none => none
    | some v => match resXs P s rs with | none => none | some vs => some (v :: vs)
def oneOr : List XV → XV
  | [v] => v
  | vs => .tup vs
def argsE : List XV → Nat → Env → Env
  | [], _, env => env
  | v :: vs, i, env => argsE vs (i + 1) (tset env i v)
def endX (P : Program) (rs : List ResultVar) (r : AExit × XS) : Option (List Out) := match r.1 with
  | .exit _ => none
  | _ => match resXs P r.2 rs with
    | some vs => some [(oneOr vs, r.2.M, r.2.nx)]
    | none => none
/-- what is known of functions: called with these on these objects, what they hand back; the objects stay -/
abbrev ExtF := Nat → List XV → Hp → Option XV
/-- functions; ext: those of which it is known what they hand back -/
def stepF (P : Program) (Γ : Facts) (ext : ExtF) (fuel : Nat) (p : CallF × IterF) : CallF × IterF :=
  (fun g args M nx => match ext g args M with
    | some v => some [(v, M, nx)]
    | none => match P.funcs[g]? with
      | none => none
      | some fn => match fn.body with
        | none => none
        | some c => match runC P Γ p.1 p.2 none (args.length + (fn.ntmps - args.length)) fuel c ⟨argsE args 0 .nil, M, nx⟩ with
          | none => none
          | some L => collect L (endX P fn.results.toList),
   fun g args Y M nx => match P.funcs[g]? with
    | none => none
    | some fn => match fn.body, fn.results.toList with
      | some c, [] => match runC P Γ p.1 p.2 (some Y) (args.length + (fn.ntmps - args.length)) fuel c ⟨argsE args 0 .nil, M, nx⟩ with
        | none => none
        | some L => collect L fun r => match r.1 with
          | .exit _ => none
          | _ => some [(r.2.M, r.2.nx)]
      | _, _ => none)
def runB (P : Program) (Γ : Facts) (ext : ExtF) (fuel : Nat) : Nat → CallF × IterF
  | 0 => (fun _ _ _ _ => none, noIter)
  | d + 1 => stepF P Γ ext fuel (runB P Γ ext fuel d)
def runF (P : Program) (Γ : Facts) (ext : ExtF) (fuel d : Nat) : CallF := (runB P Γ ext fuel d).1
section
variable {P : Program} {a : Act} {w w' w0 : World} {ρ : Rho} {σ σ' σ0 : Sig} {M N M' M0 : Hp} {Γ : Facts} {call : CallF} {env env' : Env} {ds : List Deferred} {nx0 n : Nat} {iter : IterF} {Y : Option (Nat × YH)} {fr : Option Nat}
theorem region_ok (hp : P.follows .mixedOrders = true) (hΓ : ∀ i op c b k, Γ i op c = some b → binInt op k (ρ i) k c = some (.bool b)) (hcall : CallOk P ρ call) (hY : YOk P ρ w0 σ0 M0 nx0 Y) {ops : Array Oper} {id fuel : Nat} {draw : Bool} {s : XS} {L : List (AExit × XS)} {Qm : Exit → Act → World → Prop}
    (h : runC P Γ call iter Y n fuel (.region id ops draw) s = some L) (hs : St ds ρ w0 σ0 M0 nx0 n s a w σ)
    (hQ : ∀ r ∈ L, ∀ a' w' σ', St ds ρ w0 σ0 M0 nx0 n r.2 a' w' σ' → Qm r.1.to a' w') : (Code.region id ops draw).wpIn (FW fr) 0 P Qm a w := by
  simp only [runC] at h
  cases draw with
  | false =>
    simp only at h
    split at h <;> (try (cases h; done))
    rename_i L' hL
    cases h
    refine wpIn_region_list ?_
    have := regN_ok (fr := fr) (Q := Qm) hΓ hcall hY ops.toList s L' a w σ hL hs fun s' hs' a' w' σ' hst => hQ (.normal, s') (List.mem_map.2 ⟨s', hs', rfl⟩) a' w' σ' hst
    simpa using this
  | true =>
    simp only at h
    split at h <;> (try (cases h; done))
    rename_i s' log he hsl hr
    split at h <;> (try (cases h; done))
    rename_i hok
    cases h
    obtain ⟨xs, hlen, hrun, hlog, hrange, hdn, hplan⟩ := regD_plan ops.toList 0 s [] s' log hr
    refine wpIn_region_any hp ?_
    rw [hlog] at hok
    have hs1 : Sd ds ρ w0 σ0 M0 nx0 n (s.env, s.M) a { w with drawn := w.drawn + 1 } σ :=
      ⟨hs.envr, hs.size, Ok.heap (w := w) (w1 := { w with drawn := w.drawn + 1 }) rfl hs.ok, ⟨hs.ext.os, hs.ext.tape, hs.ext.output, hs.ext.size, hs.ext.blk, hs.ext.own, hs.ext.sig, hs.ext.held⟩, hs.old, hs.def0⟩
    have := wpAny_plan (fr := fr) (Q := Qm) (s0 := (s.env, s.M)) hΓ hcall he hsl hok hlen hplan hrange hs.le hdn (fun a' w' σ' hsd hfr => hQ _ (List.mem_singleton.2 rfl) a' w' σ' (by
        rw [← hrun] at hsd
        exact ⟨hsd.envr, hsd.size, hsd.ok, hfr, hsd.ext, Nat.le_trans hs.le hrange.le, hsd.old, hsd.def0⟩))
      ops.size (Array.replicate ops.size false) a { w with drawn := w.drawn + 1 } σ (by simp) (by
        refine Nat.le_trans (List.length_filter_le _ _) (by simp)) (fun i o _ h => by simp [dn, Array.getD_eq_getD_getElem?, Array.getElem?_replicate] at h; split at h <;> simp_all)
      (by rw [runS_none _ _ _ fun j hj => by simp [dn, Array.getD_eq_getD_getElem?, Array.getElem?_replicate]; split <;> rfl]; exact hs1)
      (fun k hk _ => hs.free k hk)
    simpa using this
abbrev markOf (D : Nat) : Deferred := { target := .collected D, args := #[] }
def Marks (B : Nat) (w : World) (σ : Sig) (M : Hp) (ds : List Deferred) : Prop := ∃ Ds : List Nat, ds = Ds.map markOf ∧ Ds.Nodup ∧ ∀ D ∈ Ds, B ≤ D ∧ Frn w σ M D (.deferred (some []))
theorem Marks.ext {B : Nat} (h : Marks B w σ M ds) (e : Ext w σ M w' σ' M') : Marks B w' σ' M' ds := let ⟨Ds, h1, h2, h3⟩ := h; ⟨Ds, h1, h2, fun D hD => ⟨(h3 D hD).1, (h3 D hD).2.ext e⟩⟩
/-- where the machine stands, with the marks of ranges over functions -/
def Sm (ρ : Rho) (B : Nat) (w0 : World) (σ0 : Sig) (M0 : Hp) (nx0 n : Nat) (s : XS) (a : Act) (w : World) (σ : Sig) : Prop := ∃ ds, St ds ρ w0 σ0 M0 nx0 n s a w σ ∧ Marks B w σ s.M ds
theorem loopX_ok {B : Nat} {f : XS → Option (List (AExit × XS))} {c : Code} {Qm : Exit → Act → World → Prop}
    (hf : ∀ s L a w σ, f s = some L → Sm ρ B w0 σ0 M0 nx0 n s a w σ → ∀ Q : Exit → Act → World → Prop, (∀ r ∈ L, ∀ a' w' σ', Sm ρ B w0 σ0 M0 nx0 n r.2 a' w' σ' → Q r.1.to a' w') → c.wpIn (FW fr) 0 P Q a w)
    {fuel : Nat} {s : XS} {L : List (AExit × XS)} (h : loopX f fuel s = some L) (hs : Sm ρ B w0 σ0 M0 nx0 n s a w σ) (hQ : ∀ r ∈ L, ∀ a' w' σ', Sm ρ B w0 σ0 M0 nx0 n r.2 a' w' σ' → Qm r.1.to a' w') : (Code.loop c).wpIn (FW fr) 0 P Qm a w := by
  refine wpIn_loop_ghost (fun k a w => ∃ s R σ, loopX f k s = some R ∧ (∀ r ∈ R, r ∈ L ∧ r.1 ≠ .normal) ∧ Sm ρ B w0 σ0 M0 nx0 n s a w σ) fuel ⟨s, L, σ, h, fun r hr => ⟨hr, ?_⟩, hs⟩ ?_
  · have key : ∀ k s R, loopX f k s = some R → ∀ r ∈ R, r.1 ≠ .normal := by
      intro k
      induction k with
      | zero => intro s R h; simp [loopX] at h
      | succ k ih =>
        intro s R h
        simp only [loopX] at h
        split at h <;> (try (cases h; done))
        rename_i L' hL
        have : ∀ {L' : List (AExit × XS)} {R : List (AExit × XS)}, (collect L' fun r => match r.1 with | .normal => loopX f k r.2 | _ => some [r]) = some R → ∀ r ∈ R, r.1 ≠ .normal := by
          intro L'
          induction L' with
          | nil => intro R h r hr; simp only [collect, Option.some.injEq] at h; subst h; cases hr
          | cons x l ihl =>
            have one : ∀ {A : List (AExit × XS)}, (match x.1 with | .normal => loopX f k x.2 | _ => some [x]) = some A → ∀ r ∈ A, r.1 ≠ .normal := by
              intro A hA r hr
              split at hA
              · exact ih _ _ hA r hr
              · rename_i hne
                cases hA
                rw [List.mem_singleton.1 hr]
                exact hne
            intro R h r hr
            cases l with
            | nil => exact one h r hr
            | cons y l =>
              simp only [collect] at h
              split at h <;> (try (cases h; done))
              rename_i A hA
              split at h <;> (try (cases h; done))
              rename_i B hB
              cases h
              rcases List.mem_append.1 hr with hr | hr
              · exact one hA r hr
              · exact ihl hB r hr
        exact this h
    exact key _ _ _ h r hr
  · rintro k a w ⟨s, R, σ, hR, hsub, hst⟩
    cases k with
    | zero => simp [loopX] at hR
    | succ k =>
      simp only [loopX] at hR
      split at hR <;> (try (cases hR; done))
      rename_i L' hL
      refine hf s L' a w σ hL hst _ fun r hr a' w' σ' hst' => ?_
      obtain ⟨A, h1, h2⟩ := collect_ok hR r hr
      cases hr1 : r.1 with
      | normal =>
        rw [hr1] at h1
        exact ⟨k, Nat.lt_succ_self _, r.2, A, σ', h1, fun x hx => hsub x (h2 x hx), hst'⟩
      | exit id =>
        rw [hr1] at h1
        cases h1
        have := hQ r (hsub r (h2 r (List.mem_singleton.2 rfl))).1 a' w' σ' hst'
        rw [hr1] at this
        exact this
      | ret =>
        rw [hr1] at h1
        cases h1
        have := hQ r (hsub r (h2 r (List.mem_singleton.2 rfl))).1 a' w' σ' hst'
        rw [hr1] at this
        exact this
end
end
end Go.Xn
/- What is shown of code holds of the machine; ranges over functions too. -/
namespace Go.Xn
set_option linter.all false
set_option linter.deprecated false
noncomputable section
section
variable {P : Program} {a : Act} {w w' w0 : World} {ρ : Rho} {σ σ' σ0 : Sig} {M N M' M0 : Hp} {Γ : Facts} {call : CallF} {env env' : Env} {ds : List Deferred} {nx nx0 n : Nat} {Y : Option (Nat × YH)}
def IterOk (P : Program) (ρ : Rho) (iter : IterF) : Prop :=
  ∀ g args Y M nx L, iter g args Y M nx = some L → ∀ w σ vs, Ok ρ w σ M → (∀ k, nx ≤ k → σ k = none) → VRs ρ σ args vs → YOk P ρ w σ M nx (some Y) →
    (∃ fn c, P.funcs[g]? = some fn ∧ fn.body = some c ∧ (fn.name == "runtime.NumGoroutine") = false) ∧
    CallsIn (FW none) 0 P g vs.toArray w fun e w' => (∃ v, e = .returned v) ∧ ∃ r ∈ L, ∃ σ', Ok ρ w' σ' r.1 ∧ Ext w σ M w' σ' r.1 ∧ nx ≤ r.2 ∧ ∀ k, σ' k = σ k ∨ (nx ≤ k ∧ k < r.2)
theorem noIter_ok : IterOk P ρ noIter := fun g args Y M nx L h => by cases h
theorem YOk.mono (h : YOk P ρ w0 σ0 M0 nx0 Y) (e : Ext w0 σ0 M0 w σ M) (hle : nx0 ≤ nx) : YOk P ρ w σ M nx Y := by
  cases Y with
  | none => trivial
  | some Y =>
    obtain ⟨k, H⟩ := Y
    obtain ⟨l, rec, room, h1, h2, h3⟩ := h
    exact ⟨l, rec, room, e.sig _ _ h1, h2.ext e, fun args M' nx' L hH w' σ' us hok hfree hext hle' hus => h3 args M' nx' L hH w' σ' us hok hfree (e.trans hext) (Nat.le_trans hle hle') hus⟩
theorem St.rebase {s : XS} (h : St ds ρ w0 σ0 M0 nx0 n s a w σ) : St ds ρ w σ s.M s.nx n s a w σ := ⟨h.envr, h.size, h.ok, h.free, .refl w σ s.M, Nat.le_refl _, fun _ => .inl rfl, h.def0⟩
theorem St.join {s s' : XS} {a' : Act} {ds' : List Deferred} (h : St ds ρ w0 σ0 M0 nx0 n s a w σ) (k : St ds' ρ w σ s.M s.nx n s' a' w' σ') : St ds' ρ w0 σ0 M0 nx0 n s' a' w' σ' :=
  ⟨k.envr, k.size, k.ok, k.free, h.ext.trans k.ext, Nat.le_trans h.le k.le, fun j => by
    rcases k.old j with e | e
    · rw [e]; exact h.old j
    · exact .inr (Nat.le_trans h.le e), k.def0⟩
def RunOk (P : Program) (ρ : Rho) (Γ : Facts) (call : CallF) (n fuel : Nat) (c : Code) : Prop :=
  ∀ (fr : Option Nat) (iter : IterF) (Y : Option (Nat × YH)) (B : Nat) (w0 : World) (σ0 : Sig) (M0 : Hp) (nx0 : Nat), IterOk P ρ iter → (fr = none ∨ iter = noIter) → YOk P ρ w0 σ0 M0 nx0 Y → B ≤ w0.heap.size →
    ∀ (s : XS) (L : List (AExit × XS)) (a : Act) (w : World) (σ : Sig), runC P Γ call iter Y n fuel c s = some L → Sm ρ B w0 σ0 M0 nx0 n s a w σ →
      ∀ Qm : Exit → Act → World → Prop, (∀ r ∈ L, ∀ a' w' σ', Sm ρ B w0 σ0 M0 nx0 n r.2 a' w' σ' → Qm r.1.to a' w') → c.wpIn (FW fr) 0 P Qm a w
theorem putPs_ok : ∀ (ps : List Tmp) (args : List XV) (us : List Value) (env env' : Env) (tmps : Array Value), putPs n ps args env = some env' → VRs ρ σ args us → EnvR ρ σ env tmps → tmps.size = n →
    us.length = ps.length ∧ EnvR ρ σ env' ((ps.zip us).foldl (fun tmps (t, a) => tmps.setIfInBounds t a) tmps) ∧ ((ps.zip us).foldl (fun tmps (t, a) => tmps.setIfInBounds t a) tmps).size = n
  | [], [], us, env, env', tmps, h, hv, he, hs => by
    simp only [putPs, Option.some.injEq] at h
    subst h
    simp only [VRs] at hv
    subst hv
    exact ⟨rfl, he, hs⟩
  | [], _ :: _, us, env, env', tmps, h, hv, he, hs => by simp [putPs] at h
  | _ :: _, [], us, env, env', tmps, h, hv, he, hs => by simp [putPs] at h
  | p :: ps, v :: vs, us, env, env', tmps, h, hv, he, hs => by
    simp only [putPs] at h
    split at h <;> (try (cases h; done))
    rename_i e1 h1
    simp only [VRs] at hv
    obtain ⟨u, us, rfl, g1, g2⟩ := hv
    have := EnvR.put (a := { tmps := tmps, defers := [] }) he (d := some p) (by rw [hs]; exact h1) g1
    obtain ⟨q1, q2, q3⟩ := putPs_ok ps vs us e1 env' (tmps.setIfInBounds p u) h g2 this (by simpa using hs)
    exact ⟨by simp [q1], q2, q3⟩
theorem roundX_ok {asg body : Code} {fuel : Nat} (ha : RunOk P ρ Γ call n fuel asg) (hb : RunOk P ρ Γ call n fuel body) {fn : FuncId} {tmps : Array Value} {ps : Array Tmp} {D l : Nat} {s0 : XS}
    (henv : EnvR ρ σ0 env tmps) (hsize : tmps.size = n) (hl : Frn w0 σ0 M0 l (.loop { state := .ready, pending := none, fn, tmps, params := ps, assign := asg, body, defers := D })) :
    HdOk P ρ w0 σ0 M0 nx0 l { state := .ready, pending := none, fn, tmps, params := ps, assign := asg, body, defers := D } (roundX (runC P Γ call noIter none n fuel asg) (runC P Γ call noIter none n fuel body) n ps.toList env) := by
  intro args M nx L h w σ us hok hfree hext hle hus
  unfold roundX at h
  split at h <;> (try (cases h; done))
  rename_i env' he
  split at h <;> (try (cases h; done))
  rename_i L1 hL1
  obtain ⟨e1, e2, e3⟩ := putPs_ok ps.toList args us env env' tmps he hus (fun t v hv => ⟨(henv t v hv).1, (henv t v hv).2.mono hext.sig⟩) hsize
  refine ⟨by rw [e1]; simp, fun fr => ?_⟩
  refine roundIn_of_wpIn (F := FW fr) (FW_fn fr _) ?_
  rw [FW_in]
  have ez : ((ps.zip us.toArray).foldl (fun tmps (t, a) => tmps.setIfInBounds t a) tmps) = ((ps.toList.zip us).foldl (fun tmps (t, a) => tmps.setIfInBounds t a) tmps) := by
    rw [← Array.foldl_toList]; simp
  simp only [ez]
  have hl0 := hl.ext hext
  have hlt := hl0.lt
  refine ha (some l) noIter none (l + 1) w σ M nx noIter_ok (.inr rfl) trivial (by omega) ⟨env', M, nx⟩ L1 _ w σ hL1 ⟨[], ⟨e2, e3, hok, hfree, .refl w σ M, Nat.le_refl _, fun _ => .inl rfl, rfl⟩, [], rfl, List.nodup_nil, fun _ h => by cases h⟩ _ fun r hr a1 w1 σ1 ⟨ds1, hst, hk1⟩ => ?_
  obtain ⟨A, h1, h2⟩ := collect_ok h r hr
  cases hr1 : r.1 with
  | exit id => rw [hr1] at h1; cases h1
  | ret => rw [hr1] at h1; cases h1
  | normal =>
    rw [hr1] at h1
    simp only at h1
    split at h1 <;> (try (cases h1; done))
    rename_i L2 hL2
    have r1 := hl0.ext hst.ext
    refine ⟨_, run_beginRound r1.here rfl, ?_⟩
    have s2 : Side w1 σ1 r.2.M (w1.putObj l (.loop { state := .busy, pending := none, fn, tmps, params := ps, assign := asg, body, defers := D })) := Side.putObj r1 rfl _
    have r2 : Frn (w1.putObj l (.loop { state := .busy, pending := none, fn, tmps, params := ps, assign := asg, body, defers := D })) σ1 r.2.M l (.loop { state := .busy, pending := none, fn, tmps, params := ps, assign := asg, body, defers := D }) := r1.put
    have hw2 : ∀ c, c ≠ l → (w1.putObj l (.loop { state := .busy, pending := none, fn, tmps, params := ps, assign := asg, body, defers := D })).heap[c]? = w1.heap[c]? := fun c hc => World.putObj_heap_other hc
    generalize w1.putObj l (.loop { state := .busy, pending := none, fn, tmps, params := ps, assign := asg, body, defers := D }) = w2 at s2 r2 hw2 ⊢
    have hz1 := hst.ext.size
    refine hb (some l) noIter none (l + 1) w2 σ1 r.2.M r.2.nx noIter_ok (.inr rfl) trivial (by have := r2.lt; omega) r.2 L2 a1 w2 σ1 hL2 ⟨ds1, ⟨hst.envr, hst.size, s2.ok hst.ok, hst.free, .refl _ _ _, Nat.le_refl _, fun _ => .inl rfl, hst.def0⟩, ?_⟩ _ fun r' hr' a3 w3 σ3 ⟨ds3, hst3, _⟩ => ?_
    · obtain ⟨Ds, q1, q2, q3⟩ := hk1
      exact ⟨Ds, q1, q2, fun D hD => ⟨(q3 D hD).1, (q3 D hD).2.side (hw2 D (by have := (q3 D hD).1; omega))⟩⟩
    · obtain ⟨A', g1, g2⟩ := collect_ok h1 r' hr'
      cases hr2 : r'.1 with
      | exit id => rw [hr2] at g1; cases g1
      | ret => rw [hr2] at g1; cases g1
      | normal =>
        rw [hr2] at g1
        cases g1
        have r3 := r2.ext hst3.ext
        have s4 := Side.putObj r3 rfl (.loop { state := .ready, pending := none, fn, tmps, params := ps, assign := asg, body, defers := D })
        refine ⟨_, _, run_endRound none r3.here, rfl, (r'.2.M, r'.2.nx), h2 _ (g2 _ (List.mem_singleton.2 rfl)), σ3, s4.ok hst3.ok, ?_, Nat.le_trans hst.le hst3.le, fun k => ?_⟩
        · have hz2 := s2.size
          have hz3 := hst3.ext.size
          refine ⟨hst3.ext.os.trans (s2.os.trans hst.ext.os), hst3.ext.tape.trans (s2.tape.trans hst.ext.tape), hst3.ext.output.trans (s2.output.trans hst.ext.output), by simp; omega, fun c hc hno => ?_, fun c hc => ?_, fun k p hp => hst3.ext.sig k p (hst.ext.sig k p hp), fun c hc => ?_⟩
          · by_cases hcl : c = l
            · subst hcl
              rw [hl0.here]
              exact World.putObj_heap_same r3.lt
            · have hno1 : ¬ Owned σ1 r.2.M c := fun q => by
                rcases hst.ext.own c q with q | q
                · exact hno q
                · omega
              refine (World.putObj_heap_other hcl).trans ?_
              rw [hst3.ext.blk c (by omega) hno1, hw2 c hcl, hst.ext.blk c hc hno]
          · rcases hst3.ext.own c hc with q | q
            · exact hst.ext.own c q
            · exact .inr (by omega)
          · rcases hst3.ext.held c hc with q | q
            · exact hst.ext.held c q
            · exact .inr (by omega)
        · have hfree3 := hst3.free k
          have hle1 : nx ≤ r.2.nx := hst.le
          have hle3 : r.2.nx ≤ r'.2.nx := hst3.le
          by_cases hk : r'.2.nx ≤ k
          · left; rw [hfree3 hk, hfree k (by omega)]
          · rcases hst3.old k with e | e
            · rcases hst.old k with e' | e'
              · left; rw [e, e']
              · right; omega
            · right; omega
theorem Ok.upd (hok : Ok ρ w σ M) {key : Nat} (hf : σ key = none) (p : Nat × Nat) : Ok ρ w (σ.upd key p) M ∧ Ext w σ M w (σ.upd key p) M := by
  have hne : ∀ k o, tget M k = some o → k ≠ key := fun k o h e => by
    obtain ⟨q, hq, _⟩ := hok.obj k o h
    rw [e, hf] at hq; cases hq
  have hs := Sig.upd_sub hf p
  have ext : Ext w σ M w (σ.upd key p) M := ⟨rfl, rfl, rfl, Nat.le_refl _, fun _ _ _ => rfl, fun b hb => .inl (by
    obtain ⟨k, o, q, h1, h2, h3⟩ := hb
    rw [Sig.upd_other _ _ (hne _ _ h1)] at h2
    exact ⟨k, o, q, h1, h2, h3⟩), hs, fun b hb => .inl (by
    obtain ⟨k, o, q, h1, h2, h3⟩ := hb
    rw [Sig.upd_other _ _ (hne _ _ h1)] at h2
    exact ⟨k, o, q, h1, h2, h3⟩)⟩
  refine Ok.mk' hok ext (fun k o hk => ?_) (fun k k' o o' q q' h1 h2 hmu h3 h4 => ?_)
  · obtain ⟨q, hq, ho⟩ := hok.obj k o hk
    exact ⟨q, hs _ _ hq, OR.mono hs rfl ho⟩
  · rw [Sig.upd_other _ _ (hne _ _ h1)] at h3
    rw [Sig.upd_other _ _ (hne _ _ h2)] at h4
    exact hok.inj k k' o o' q q' h1 h2 hmu h3 h4
theorem runC_ok (hp : P.follows .mixedOrders = true) (hΓ : ∀ i op c b k, Γ i op c = some b → binInt op k (ρ i) k c = some (.bool b)) (hcall : CallOk P ρ call) {fuel : Nat} : ∀ c, RunOk P ρ Γ call n fuel c := by
  intro c
  induction c with
  | skip => intro fr iter Y B w0 σ0 M0 nx0 hI hfr hY hB s L a w σ h hs Qm hQ; cases h; exact wpIn_skip (hQ _ (List.mem_singleton.2 rfl) a w σ hs)
  | ret => intro fr iter Y B w0 σ0 M0 nx0 hI hfr hY hB s L a w σ h hs Qm hQ; cases h; exact wpIn_ret (hQ _ (List.mem_singleton.2 rfl) a w σ hs)
  | exit id => intro fr iter Y B w0 σ0 M0 nx0 hI hfr hY hB s L a w σ h hs Qm hQ; cases h; exact wpIn_exit (hQ _ (List.mem_singleton.2 rfl) a w σ hs)
  | region id ops draw =>
    intro fr iter Y B w0 σ0 M0 nx0 hI hfr hY hB s L a w σ h ⟨ds, hs, hk⟩ Qm hQ
    exact region_ok hp hΓ hcall (hY.mono hs.ext hs.le) h hs.rebase fun r hr a' w' σ' hst => hQ r hr a' w' σ' ⟨ds, hs.join hst, hk.ext hst.ext⟩
  | seq x y ihx ihy =>
    intro fr iter Y B w0 σ0 M0 nx0 hI hfr hY hB s L a w σ h hs Qm hQ
    simp only [runC] at h
    split at h <;> (try (cases h; done))
    rename_i L' hL
    refine wpIn_seq (ihx fr iter Y B w0 σ0 M0 nx0 hI hfr hY hB s L' a w σ hL hs _ fun r hr a' w' σ' hst => ?_)
    obtain ⟨A, h1, h2⟩ := collect_ok h r hr
    cases hr1 : r.1 with
    | normal =>
      rw [hr1] at h1
      exact ihy fr iter Y B w0 σ0 M0 nx0 hI hfr hY hB r.2 A a' w' σ' h1 hst Qm fun r' hr' => hQ r' (h2 r' hr')
    | exit id =>
      rw [hr1] at h1
      cases h1
      have := hQ r (h2 r (List.mem_singleton.2 rfl)) a' w' σ' hst
      rw [hr1] at this
      exact this
    | ret =>
      rw [hr1] at h1
      cases h1
      have := hQ r (h2 r (List.mem_singleton.2 rfl)) a' w' σ' hst
      rw [hr1] at this
      exact this
  | cond c x y ihx ihy =>
    intro fr iter Y B w0 σ0 M0 nx0 hI hfr hY hB s L a w σ h hs Qm hQ
    simp only [runC] at h
    have hv : VR ρ σ (opv s.env c) (a.eval c) := let ⟨_, hst, _⟩ := hs; opv_ok hst.envr c
    split at h <;> (try (cases h; done)) <;> rename_i hb <;> rw [hb] at hv <;> simp only [VR] at hv
    · exact wpIn_cond_split hv (fun _ => ihx fr iter Y B w0 σ0 M0 nx0 hI hfr hY hB s L a w σ h hs Qm hQ) fun hf => by cases hf
    · exact wpIn_cond_split hv (fun hf => by cases hf) fun _ => ihy fr iter Y B w0 σ0 M0 nx0 hI hfr hY hB s L a w σ h hs Qm hQ
  | block id c ih =>
    intro fr iter Y B w0 σ0 M0 nx0 hI hfr hY hB s L a w σ h hs Qm hQ
    simp only [runC] at h
    split at h <;> (try (cases h; done))
    rename_i L' hL
    cases h
    refine wpIn_block (ih fr iter Y B w0 σ0 M0 nx0 hI hfr hY hB s L' a w σ hL hs _ fun r hr a' w' σ' hst => ?_)
    have := hQ (inBlockX id r) (List.mem_map.2 ⟨r, hr, rfl⟩) a' w' σ'
    unfold inBlockX at this
    cases hr1 : r.1 with
    | normal =>
      rw [hr1] at this
      have := this hst
      rw [hr1] at this
      exact this
    | ret =>
      rw [hr1] at this
      have := this hst
      rw [hr1] at this
      exact this
    | exit i =>
      rw [hr1] at this
      simp only at this
      simp only [AExit.to, Exit.inBlock]
      cases hb : Nat.beq i id with
      | true =>
        rw [if_pos (Nat.eq_of_beq_eq_true hb)]
        rw [hb] at this
        exact this hst
      | false =>
        rw [if_neg (Nat.ne_of_beq_eq_false hb)]
        rw [hb] at this
        have := this hst
        rw [hr1] at this
        exact this
  | loop c ih =>
    intro fr iter Y B w0 σ0 M0 nx0 hI hfr hY hB s L a w σ h hs Qm hQ
    simp only [runC] at h
    exact loopX_ok (fun s L a w σ h hs Q hQ => ih fr iter Y B w0 σ0 M0 nx0 hI hfr hY hB s L a w σ h hs Q hQ) h hs hQ
  | rangeFunc f ps asg body iha ihb =>
    intro fr iter Y B w0 σ0 M0 nx0 hI hfr hY hB s L a w σ h ⟨ds, hs, hk⟩ Qm hQ
    simp only [runC] at h
    split at h <;> (try (cases h; done))
    rename_i g caps hfv
    split at h <;> (try (cases h; done))
    rename_i L' hL
    cases h
    have hfr : fr = none := by
      rcases hfr with e | e
      · exact e
      · rw [e] at hL; cases hL
    subst hfr
    have hv := opv_ok hs.envr f
    rw [hfv] at hv
    simp only [VR, VRs] at hv
    obtain ⟨us0, us, hus, hnil, hcaps⟩ := hv
    have hnil : us0 = #[] := by apply Array.ext'; simpa using hnil
    subst hnil
    refine wpIn_rangeFunc ?_
    intro fc _
    obtain ⟨R, hR⟩ : ∃ R : Loop, R = { state := .ready, pending := none, fn := fc, tmps := a.tmps, params := ps, assign := asg, body, defers := w.heap.size } := ⟨_, rfl⟩
    obtain ⟨W1, hW1⟩ : ∃ W1, W1 = (w.alloc (.deferred (some []))).alloc (.loop R) := ⟨_, rfl⟩
    have hz1 : (w.alloc (.deferred (some []))).heap.size = w.heap.size + 1 := World.size_alloc ..
    have s1 : Side w σ s.M (w.alloc (.deferred (some []))) := Side.alloc hs.ok _
    have ok1 := s1.ok hs.ok
    have s2 : Side (w.alloc (.deferred (some []))) σ s.M W1 := by rw [hW1]; exact Side.alloc ok1 _
    have d1 : Frn (w.alloc (.deferred (some []))) σ s.M w.heap.size (.deferred (some [])) := Frn.new hs.ok _
    have at1 : ∀ b, b < w.heap.size → (w.alloc (.deferred (some []))).heap[b]? = w.heap[b]? := fun b hb => by
      show (w.heap.push _)[b]? = _
      rw [Array.getElem?_push, if_neg (by omega)]
    have at2 : ∀ b, b < w.heap.size + 1 → W1.heap[b]? = (w.alloc (.deferred (some []))).heap[b]? := fun b hb => by
      rw [hW1]
      show ((w.alloc _).heap.push _)[b]? = _
      rw [Array.getElem?_push, if_neg (by omega)]
    have d2 : Frn W1 σ s.M w.heap.size (.deferred (some [])) := d1.side (at2 _ (by omega))
    have r2 : Frn W1 σ s.M (w.heap.size + 1) (.loop R) := by
      have := Frn.new (o := .loop R) ok1
      rw [hz1] at this
      rw [hW1]; exact this
    have x2 : Ext w σ s.M W1 σ s.M := s2.ext (s1.ext (.refl _ _ _) fun b hb _ => at1 b hb) fun b hb _ => at2 b (by omega)
    obtain ⟨ok3, x3⟩ := (s2.ok ok1).upd (hs.free s.nx (Nat.le_refl _)) (w.heap.size + 1, 0)
    have hσ1 : ∀ k, s.nx + 1 ≤ k → (σ.upd s.nx (w.heap.size + 1, 0)) k = none := fun k hk => by
      rw [Sig.upd_other _ _ (by omega)]; exact hs.free k (by omega)
    have x13 := x2.trans x3
    have r3 := r2.ext x3
    have d3 := d2.ext x3
    have hargs : VRs ρ (σ.upd s.nx (w.heap.size + 1, 0)) (.yd s.nx :: caps) (.func (.yield (w.heap.size + 1)) #[] #[] :: us.toList) := by
      simp only [VRs, VR]
      exact ⟨_, _, rfl, ⟨_, _, Sig.upd_same .., rfl⟩, hcaps.mono x13.sig⟩
    have henv3 : EnvR ρ (σ.upd s.nx (w.heap.size + 1, 0)) s.env a.tmps := fun t v hv => ⟨(hs.envr t v hv).1, (hs.envr t v hv).2.mono x13.sig⟩
    have hhd := roundX_ok (nx0 := s.nx + 1) iha ihb (fn := fc) (ps := ps) (D := w.heap.size) (s0 := s) henv3 hs.size (by rw [← hR]; exact r3)
    rw [← hR] at hhd
    obtain ⟨⟨fn, c, hfn, hbody, hname⟩, hcalls⟩ := hI g _ _ s.M (s.nx + 1) L' hL W1 _ _ ok3 hσ1 hargs ⟨w.heap.size + 1, R, 0, Sig.upd_same .., r3, hhd⟩
    refine ⟨w.heap.size + 1, [markOf w.heap.size], W1, { target := .fn (.func g) us, args := #[.func (.yield (w.heap.size + 1)) #[] #[]] }, W1, g, #[.func (.yield (w.heap.size + 1)) #[] #[]] ++ us, W1, ?_, ?_, fun f' _ => FW_fn none f', ?_, fun q => (by rw [FW_depth] at q; cases q), ?_⟩
    · rw [hW1, hR, FW_round]; exact run_enterLoop_outer _ _ _ _ _
    · simp [resolve, hus, Deferred.ofValue]
      rfl
    · simp only [invoke, callFunc, Sem.run_bind, run_program, Result.andThen_ok, hfn, hname, hbody, Option.isNone_some, Bool.false_eq_true, if_false, Sem.run_pure]
    · have ez : (#[.func (.yield (w.heap.size + 1)) #[] #[]] ++ us : Array Value) = (.func (.yield (w.heap.size + 1)) #[] #[] :: us.toList).toArray := by
        apply Array.ext'; simp
      rw [ez]
      refine hcalls.mono fun e w3 hq => ?_
      obtain ⟨⟨v, rfl⟩, r, hr, σ', g1, g2, g3, g4⟩ := hq
      have r4 := r3.ext g2
      have s4 := Side.putObj r4 rfl (.loop { R with state := .exhausted })
      have x4 := x13.trans g2
      refine ⟨none, w3.putObj (w.heap.size + 1) (.loop { R with state := .exhausted }), ?_, ?_⟩
      · have hpd : R.pending = none := by rw [hR]
        have hsr : R.state = .ready := by rw [hR]
        have := run_endLoop (P := P) r4.here (by rw [hsr]; simp)
        rw [this, hpd]
      · refine hQ (.normal, ⟨s.env, r.1, r.2⟩) (List.mem_map.2 ⟨r, hr, rfl⟩) _ _ σ' ⟨markOf w.heap.size :: ds, ⟨fun t v hv => ⟨(hs.envr t v hv).1, (hs.envr t v hv).2.mono x4.sig⟩, hs.size, s4.ok g1, fun k hk => ?_, ?_, by have := hs.le; simp only; omega, fun k => ?_, ?_⟩, ?_⟩
        · simp only at hk
          rcases g4 k with e | e
          · rw [e]; exact hσ1 k (by omega)
          · omega
        · have hz := hs.ext.size
          exact s4.ext (hs.ext.trans x4) fun c hc _ => World.putObj_heap_other (by omega)
        · rcases g4 k with e | e
          · by_cases hk : k = s.nx
            · right; rw [hk]; exact hs.le
            · rw [e, Sig.upd_other _ _ hk]; exact hs.old k
          · right; have := hs.le; omega
        · show [markOf w.heap.size] ++ a.defers = _
          rw [hs.def0]; rfl
        · obtain ⟨Ds, e1, e2, e3⟩ := hk
          have hlt : ∀ D ∈ Ds, D < w.heap.size := fun D hD => (e3 D hD).2.lt
          refine ⟨w.heap.size :: Ds, by rw [e1]; rfl, List.nodup_cons.2 ⟨fun hm => absurd (hlt _ hm) (by omega), e2⟩, fun D hD => ?_⟩
          have hne : D ≠ w.heap.size + 1 := by
            rcases List.mem_cons.1 hD with rfl | hD
            · omega
            · have := hlt D hD; omega
          have hzw := hs.ext.size
          rcases List.mem_cons.1 hD with rfl | hD
          · exact ⟨by omega, (d3.ext g2).side (World.putObj_heap_other hne)⟩
          · exact ⟨(e3 D hD).1, ((e3 D hD).2.ext x4).side (World.putObj_heap_other hne)⟩
  | scope b _ => intro fr iter Y B w0 σ0 M0 nx0 hI hfr hY hB s L a w σ h; simp [runC] at h
  | label l => intro fr iter Y B w0 σ0 M0 nx0 hI hfr hY hB s L a w σ h; simp [runC] at h
  | goto l => intro fr iter Y B w0 σ0 M0 nx0 hI hfr hY hB s L a w σ h; simp [runC] at h
  | refuse y => intro fr iter Y B w0 σ0 M0 nx0 hI hfr hY hB s L a w σ h; simp [runC] at h
end
end
end Go.Xn
/- Functions, run: what is shown of a run on known data holds of the machine, whatever order it draws. -/
namespace Go.Xn
set_option linter.all false
set_option linter.deprecated false
noncomputable section
section
variable {P : Program} {a : Act} {w w' w0 : World} {ρ : Rho} {σ σ' σ0 : Sig} {M N M' M0 : Hp} {Γ : Facts} {call : CallF} {env env' : Env} {ds : List Deferred} {nx0 n nx : Nat}
theorem argsE_get : ∀ (vs : List XV) (i : Nat) (env : Env) (t : Nat), tget (argsE vs i env) t = if i ≤ t ∧ t < i + vs.length then vs[t - i]? else tget env t
  | [], i, env, t => by simp [argsE]; intro h1 h2; omega
  | v :: vs, i, env, t => by
    simp only [argsE, argsE_get vs (i + 1), tget_tset, List.length_cons]
    by_cases h : i + 1 ≤ t ∧ t < i + 1 + vs.length
    · rw [if_pos h, if_pos (by omega)]
      rw [show t - i = (t - (i + 1)) + 1 by omega]
      rfl
    · rw [if_neg h]
      by_cases h2 : i = t
      · subst h2
        rw [if_pos rfl, if_pos (by omega)]
        simp
      · rw [if_neg h2, if_neg (by omega)]
theorem resXs_ok {s : XS} (hok : Ok ρ w σ s.M) (henv : EnvR ρ σ s.env a.tmps) : ∀ (rs : List ResultVar) (vs : List XV), resXs P s rs = some vs →
    ∃ us, VRs ρ σ vs us ∧ ∀ g : ResultVar → Sem Value, (∀ t, g (.tmp t) = pure (a.tmps.getD t undef)) → (∀ b t, g (.cell b t) = do loadVar t (← asAddr (a.tmps.getD b undef))) → (rs.mapM g).run P w = .ok us w
  | [], vs, h => by
    simp only [resXs, Option.some.injEq] at h
    subst h
    exact ⟨[], by simp only [VRs], fun _ _ _ => rfl⟩
  | r :: rs, vs, h => by
    unfold resXs at h
    split at h <;> (try (cases h; done))
    rename_i v h1
    split at h <;> (try (cases h; done))
    rename_i vs' h2
    cases h
    obtain ⟨us, e2, e1⟩ := resXs_ok hok henv rs vs' h2
    have one : ∃ u, VR ρ σ v u ∧ ∀ g : ResultVar → Sem Value, (∀ t, g (.tmp t) = pure (a.tmps.getD t undef)) → (∀ b t, g (.cell b t) = do loadVar t (← asAddr (a.tmps.getD b undef))) → (g r).run P w = .ok u w := by
      unfold resX at h1
      split at h1
      · rename_i t
        exact ⟨_, (henv t v h1).2, fun g q _ => by rw [q]; rfl⟩
      · rename_i b t
        split at h1 <;> (try (cases h1; done))
        rename_i x hb
        split at h1 <;> (try (cases h1; done))
        rename_i e hl
        cases h1
        have hv := (henv b x hb).2
        obtain ⟨u, g1, g2, _⟩ := loadX_ok (P := P) hok hl hv
        refine ⟨u, g2, fun g _ q => ?_⟩
        rw [q]
        have hx : ∃ ad, a.tmps.getD b undef = .pointer (some ad) := by
          unfold loadX at hl
          split at hl <;> (try (cases hl; done))
          simp only [VR] at hv
          obtain ⟨_, _, _, h⟩ := hv
          exact ⟨_, h⟩
        obtain ⟨ad, hx⟩ := hx
        rw [hx] at g1 ⊢
        simpa [Instr.loadAt, Instr.sureAddr, asAddr] using g1
    obtain ⟨u, g2, g1⟩ := one
    refine ⟨u :: us, ?_, fun g q1 q2 => ?_⟩
    · simp only [VRs]
      exact ⟨u, us, rfl, g2, e2⟩
    · simp only [List.mapM_cons, Sem.run_bind, g1 g q1 q2, Result.andThen_ok, e1 g q1 q2, Sem.run_pure]
def ExtOk (P : Program) (ρ : Rho) (ext : ExtF) : Prop :=
  ∀ (g : Nat) (args : List XV) (M : Hp) (v : XV), ext g args M = some v → ∀ (w : World) (σ : Sig) (vs : List Value), Ok ρ w σ M → VRs ρ σ args vs →
    ∀ (o : Oper) (a : Act) (K : Act → World → Prop) (Q : Exit → Act → World → Prop), (∀ u w', VR ρ σ v u → Ok ρ w' σ M → Ext w σ M w' σ M → K (a.put o.dst u) w') → o.upon P a K Q ((callFunc g vs.toArray).run P w)
theorem ExtOk.or {P : Program} {ρ : Rho} {e1 e2 : ExtF} (h1 : ExtOk P ρ e1) (h2 : ExtOk P ρ e2) : ExtOk P ρ fun g args M => match e1 g args M with | some v => some v | none => e2 g args M := by
  intro g args M v h
  simp only at h
  split at h
  · rename_i v' hv
    cases h
    exact h1 g args M _ hv
  · exact h2 g args M v h
/-- the marks are taken off, one behind the other -/
theorem marks_leave {fn : Func} {tmps : Array Value} {R : Ending → World → Prop} : ∀ (Ds : List Nat) (w : World), Ok ρ w σ M → Ds.Nodup → (∀ D ∈ Ds, Frn w σ M D (.deferred (some []))) →
    (∀ w', Side w σ M w' → (∀ b, b ∉ Ds → w'.heap[b]? = w.heap[b]?) → ∃ v, (results fn tmps).run P w' = .ok v w' ∧ R (.returned v) w') → LeavesInM (FW none) 0 P fn tmps R (Ds.map markOf) .returning w
  | [], w, _, _, _, h => h w ⟨rfl, rfl, rfl, Nat.le_refl _, fun _ _ => rfl, fun _ _ _ _ => rfl⟩ fun _ _ => rfl
  | D :: Ds, w, hok, hd, hD, h => by
    have h0 := hD D List.mem_cons_self
    have hn := List.nodup_cons.1 hd
    have s : Side w σ M (w.putObj D (.deferred none)) := Side.putObj h0 rfl _
    refine ⟨by simp, .inl ⟨D, w.putObj D (.deferred none), rfl, run_takeDeferred h0.here, ?_⟩⟩
    refine marks_leave Ds _ (s.ok hok) hn.2 (fun E hE => (hD E (List.mem_cons_of_mem _ hE)).side (World.putObj_heap_other (fun q => hn.1 (by rw [← q]; exact hE)))) fun w' hs hb => ?_
    refine h w' (s.trans hs) fun b hnb => ?_
    simp only [List.mem_cons, not_or] at hnb
    exact (hb b hnb.2).trans (World.putObj_heap_other hnb.1)
theorem args_st {args : List XV} {vs : List Value} {m nx : Nat} (hok : Ok ρ w σ M) (hfree : ∀ k, nx ≤ k → σ k = none) (hargs : VRs ρ σ args vs) :
    Sm ρ w.heap.size w σ M nx (args.length + (m - args.length)) ⟨argsE args 0 .nil, M, nx⟩ { tmps := vs.toArray ++ Array.replicate (m - vs.toArray.size) undef, defers := [] } w σ := by
  have hlen := hargs.length
  refine ⟨[], ⟨fun t v hv => ?_, by simp [hlen], hok, hfree, .refl w σ M, Nat.le_refl _, fun _ => .inl rfl, rfl⟩, [], rfl, List.nodup_nil, fun _ h => by cases h⟩
  simp only [argsE_get, Nat.zero_le, true_and, Nat.zero_add, Nat.sub_zero, tget_nil] at hv
  split at hv
  · rename_i ht
    obtain ⟨u, g1, g2⟩ := hargs.get hv
    have hlt : t < vs.length := by omega
    refine ⟨by simp; omega, ?_⟩
    simp only [Array.getD_eq_getD_getElem?]
    rw [Array.getElem?_append_left (by simpa using hlt)]
    simp only [List.getElem?_toArray, g1, Option.getD_some]
    exact g2
  · cases hv
/-- the end of a function: the marks, the results -/
theorem end_ok {fn : Func} {R : Ending → World → Prop} {s : XS} {vs : List XV} (hm : Sm ρ w0.heap.size w0 σ0 M0 nx0 n s a w σ) (hfree : ∀ k, nx0 ≤ k → σ0 k = none) (hvs : resXs P s fn.results.toList = some vs)
    (hR : ∀ v w' σ', VR ρ σ' (oneOr vs) v → Ok ρ w' σ' s.M → Ext w0 σ0 M0 w' σ' s.M → nx0 ≤ s.nx → (∀ k, σ' k = σ0 k ∨ (nx0 ≤ k ∧ k < s.nx)) → R (.returned v) w') : LeavesInM (FW none) 0 P fn a.tmps R a.defers .returning w := by
  obtain ⟨ds, hst, Ds, e1, e2, e3⟩ := hm
  rw [hst.def0, e1]
  refine marks_leave Ds w hst.ok e2 (fun D hD => (e3 D hD).2) fun w' hs hbl => ?_
  have hok := hs.ok hst.ok
  obtain ⟨us, g2, g1⟩ := resXs_ok (P := P) hok hst.envr _ _ hvs
  have hus := g2.length
  obtain ⟨v, g3, g4⟩ : ∃ v, (results fn a.tmps).run P w' = .ok v w' ∧ VR ρ σ (oneOr vs) v := by
    refine ⟨if h : us.toArray.size = 1 then us.toArray[0] else .tuple us.toArray, ?_, ?_⟩
    · simp only [results, Sem.run_bind, Array.mapM_eq_mapM_toList, Sem.run_map]
      rw [g1 _ (fun _ => rfl) (fun _ _ => rfl)]
      rfl
    · cases vs with
      | nil =>
        cases us with
        | nil => simp only [oneOr, VR]; exact ⟨#[], by simp, by simp only [VRs]⟩
        | cons u us => simp at hus
      | cons v vs' =>
        cases vs' with
        | nil =>
          simp only [VRs] at g2
          obtain ⟨u, us', rfl, h1, rfl⟩ := g2
          simpa [oneOr] using h1
        | cons v2 vs' =>
          have hne : ¬ us.toArray.size = 1 := by simp; simp at hus; omega
          rw [dif_neg hne]
          simp only [oneOr, VR]
          exact ⟨us.toArray, rfl, g2⟩
  refine ⟨v, g3, hR v w' σ g4 hok (hs.ext hst.ext fun c hc _ => hbl c fun hm => by have := (e3 c hm).1; omega) hst.le fun k => ?_⟩
  rcases hst.old k with e | e
  · exact .inl e
  · by_cases hk : k < s.nx
    · exact .inr ⟨e, hk⟩
    · left
      rw [hst.free k (by omega), hfree k e]
theorem runB_ok (hp : P.follows .mixedOrders = true) (hnum : ∀ (g : Nat) (fn : Func), P.funcs[g]? = some fn → (fn.name == "runtime.NumGoroutine") = false) (hΓ : ∀ i op c b k, Γ i op c = some b → binInt op k (ρ i) k c = some (.bool b)) {ext : ExtF} (hext : ExtOk P ρ ext) {fuel : Nat} :
    ∀ d, CallOk P ρ (runB P Γ ext fuel d).1 ∧ IterOk P ρ (runB P Γ ext fuel d).2
  | 0 => ⟨fun g args M nx L h => by simp [runB] at h, fun g args Y M nx L h => by simp [runB, noIter] at h⟩
  | d + 1 => by
    obtain ⟨ih1, ih2⟩ := runB_ok hp hnum hΓ hext (fuel := fuel) d
    refine ⟨?_, ?_⟩
    · intro g args M nx L h w σ vs hok hfree hargs o a K Q hK
      simp only [runB, stepF] at h
      split at h
      · rename_i v hv
        cases h
        exact hext g args M v hv w σ vs hok hargs o a K Q fun u w' q1 q2 q3 => hK u w' ⟨_, List.mem_singleton.2 rfl, σ, q1, q2, q3, Nat.le_refl _, fun _ => .inl rfl⟩
      · split at h <;> (try (cases h; done))
        rename_i fn hf
        split at h <;> (try (cases h; done))
        rename_i c hb
        split at h <;> (try (cases h; done))
        rename_i L' hL
        have hrun : (callFunc g vs.toArray).run P w = .ok (.enter g vs.toArray) w := by
          simp only [callFunc, Sem.run_bind, run_program, Result.andThen_ok, hf, hnum g fn hf, hb, Option.isNone_some, Bool.false_eq_true, if_false, Sem.run_pure]
        rw [hrun]
        show Calls P g vs.toArray w _
        refine (callsIn_wide (n := 0)).1 ?_
        refine callsIn_of_wp_marks (F := FW none) hf hb (FW_fn none _) ?_
        refine runC_ok hp hΓ ih1 c none _ none w.heap.size w σ M nx ih2 (.inl rfl) trivial (Nat.le_refl _) _ L' _ w σ hL (args_st hok hfree hargs) _ fun r hr a' w' σ' hst' => ?_
        obtain ⟨A, h1, h2⟩ := collect_ok h r hr
        have fin : (match resXs P r.2 fn.results.toList with | some vs => some [(oneOr vs, r.2.M, r.2.nx)] | none => none) = some A → LeavesInM (FW none) 0 P fn a'.tmps (fun
              | .returned v, w'' => K (a.put o.dst v) w''
              | .panicked chain, w'' => Q (.panic chain) a w''
              | .outgrown, _ => LetsOut Q) a'.defers .returning w' := by
          intro hA
          split at hA <;> (try (cases hA; done))
          rename_i vs' hvs
          cases hA
          exact end_ok hst' hfree hvs fun v w'' σ'' q1 q2 q3 q4 q5 => hK v w'' ⟨_, h2 _ (List.mem_singleton.2 rfl), σ'', q1, q2, q3, q4, q5⟩
        cases hr1 : r.1 with
        | normal =>
          unfold endX at h1
          rw [hr1] at h1
          exact fin h1
        | ret =>
          unfold endX at h1
          rw [hr1] at h1
          exact fin h1
        | exit id =>
          unfold endX at h1
          rw [hr1] at h1
          cases h1
    · intro g args Y M nx L h w σ vs hok hfree hargs hY
      simp only [runB, stepF] at h
      split at h <;> (try (cases h; done))
      rename_i fn hf
      split at h <;> (try (cases h; done))
      rename_i c hb hres
      split at h <;> (try (cases h; done))
      rename_i L' hL
      refine ⟨⟨fn, c, hf, hb, hnum g fn hf⟩, ?_⟩
      refine callsIn_of_wp_marks (F := FW none) hf hb (FW_fn none _) ?_
      refine runC_ok hp hΓ ih1 c none _ (some Y) w.heap.size w σ M nx ih2 (.inl rfl) hY (Nat.le_refl _) _ L' _ w σ hL (args_st hok hfree hargs) _ fun r hr a' w' σ' hst' => ?_
      obtain ⟨A, h1, h2⟩ := collect_ok h r hr
      have fin : some [(r.2.M, r.2.nx)] = some A → LeavesInM (FW none) 0 P fn a'.tmps (fun e w' => (∃ v, e = .returned v) ∧ ∃ r ∈ L, ∃ σ', Ok ρ w' σ' r.1 ∧ Ext w σ M w' σ' r.1 ∧ nx ≤ r.2 ∧ ∀ k, σ' k = σ k ∨ (nx ≤ k ∧ k < r.2)) a'.defers .returning w' := by
        intro hA
        cases hA
        exact end_ok (vs := []) hst' hfree (by rw [hres]; rfl) fun v w'' σ'' _ q2 q3 q4 q5 => ⟨⟨v, rfl⟩, _, h2 _ (List.mem_singleton.2 rfl), σ'', q2, q3, q4, q5⟩
      cases hr1 : r.1 with
      | normal => rw [hr1] at h1; exact fin h1
      | ret => rw [hr1] at h1; exact fin h1
      | exit id => rw [hr1] at h1; cases h1
theorem runF_ok (hp : P.follows .mixedOrders = true) (hnum : ∀ (g : Nat) (fn : Func), P.funcs[g]? = some fn → (fn.name == "runtime.NumGoroutine") = false) (hΓ : ∀ i op c b k, Γ i op c = some b → binInt op k (ρ i) k c = some (.bool b)) {ext : ExtF} (hext : ExtOk P ρ ext) {fuel : Nat} (d : Nat) :
    CallOk P ρ (runF P Γ ext fuel d) := (runB_ok hp hnum hΓ hext d).1
end
end
end Go.Xn
/- The two functions of the machine's own that texts need: Count, IndexByte. -/
namespace Go.Xn
set_option linter.all false
set_option linter.deprecated false
noncomputable section
def cntN (c : Nat) : List Nat → Nat
  | [] => 0
  | b :: s => match Nat.beq b c with | true => cntN c s + 1 | false => cntN c s
def idxN (c : Nat) : List Nat → Nat → Int
  | [], _ => -1
  | b :: s, i => match Nat.beq b c with | true => .ofNat i | false => idxN c s (i + 1)
def extB (cnt idx : Nat) : ExtF := fun g args _ =>
  match args with
  | [.str s, .int .u8 (.ofNat c)] => match Nat.blt c 256 with
    | true => match Nat.beq g cnt with
      | true => some (.int .i64 (.ofNat (cntN c s)))
      | false => match Nat.beq g idx with
        | true => some (.int .i64 (idxN c s 0))
        | false => none
    | false => none
  | _ => none
theorem beq_u8 {b : UInt8} {c : Nat} (hc : c < 256) : (b == c.toUInt8) = Nat.beq b.toNat c := by
  have ht : c.toUInt8.toNat = c := by simp [Nat.mod_eq_of_lt hc]
  cases h : Nat.beq b.toNat c with
  | true =>
    have := Nat.eq_of_beq_eq_true h
    rw [beq_iff_eq, ← UInt8.toNat_inj, ht, this]
  | false =>
    have := Nat.ne_of_beq_eq_false h
    rw [beq_eq_false_iff_ne]
    rintro rfl
    exact this ht
theorem cnt_ok {c : Nat} (hc : c < 256) : ∀ l : List UInt8, Lib.countByte l c.toUInt8 = cntN c (l.map fun b => b.toNat)
  | [] => rfl
  | b :: l => by
    have ih := cnt_ok hc l
    unfold Lib.countByte at ih ⊢
    simp only [List.count_cons, List.map_cons, cntN, ih, beq_u8 hc]
    cases Nat.beq b.toNat c <;> simp
theorem idx_ok {c : Nat} (hc : c < 256) : ∀ (l : List UInt8) (i : Nat), idxN c (l.map fun b => b.toNat) i = if Lib.indexByte l c.toUInt8 = -1 then -1 else Lib.indexByte l c.toUInt8 + i
  | [], i => by simp [idxN, Lib.indexByte]
  | b :: l, i => by
    simp only [List.map_cons, idxN, Lib.indexByte, beq_u8 hc, idx_ok hc l (i + 1)]
    cases Nat.beq b.toNat c with
    | true => simp
    | false =>
      have := Lib.indexByte_ge l c.toUInt8
      by_cases h : Lib.indexByte l c.toUInt8 = -1
      · simp [h]
      · have h2 : ¬ Lib.indexByte l c.toUInt8 + 1 = -1 := by omega
        simp only [h, if_false, beq_iff_eq, Bool.false_eq_true, h2]
        omega
theorem extB_ok {P : Program} {ρ : Rho} {cnt idx : Nat}
    (h1 : ∃ fn, P.funcs[cnt]? = some fn ∧ fn.body.isNone = true ∧ (fn.name == "runtime.NumGoroutine") = false ∧ Extern.findNext fn = none ∧ Extern.find fn = some Extern.BytealgCount.count)
    (h2 : ∃ fn, P.funcs[idx]? = some fn ∧ fn.body.isNone = true ∧ (fn.name == "runtime.NumGoroutine") = false ∧ Extern.findNext fn = none ∧ Extern.find fn = some Extern.BytealgIndexByte.indexByte) : ExtOk P ρ (extB cnt idx) := by
  intro g args M v h w σ vs hok hvs o a K Q hK
  unfold extB at h
  split at h <;> (try (cases h; done))
  rename_i s c
  split at h <;> (try (cases h; done))
  rename_i hc
  have hc : c < 256 := by simpa using hc
  simp only [VRs, VR] at hvs
  obtain ⟨u1, us, rfl, ⟨t, rfl, ht⟩, u2, us2, rfl, rfl, rfl⟩ := hvs
  have hc' : (Int.ofNat c).toNat.toUInt8 = c.toUInt8 := rfl
  split at h
  · rename_i hg
    cases h
    have := Nat.eq_of_beq_eq_true hg
    subst this
    obtain ⟨fn, hf, hb, q1, q2, q3⟩ := h1
    have := hK (.int .i64 (cntN c s : Nat)) w (by simp only [VR]; rfl) hok (.refl w σ M)
    rw [run_callFunc_extern hf q1 hb q2 q3, Lib.run_countString, hc', cnt_ok hc, ht]
    exact this
  · split at h <;> (try (cases h; done))
    rename_i hg
    cases h
    have := Nat.eq_of_beq_eq_true hg
    subst this
    obtain ⟨fn, hf, hb, q1, q2, q3⟩ := h2
    have := hK (.int .i64 (idxN c s 0)) w (by simp only [VR]) hok (.refl w σ M)
    have e : (if Lib.indexByte t.data.toList c.toUInt8 = -1 then -1 else Lib.indexByte t.data.toList c.toUInt8 + ((0 : Nat) : Int)) = Lib.indexByte t.data.toList c.toUInt8 := by
      split <;> rename_i h
      · exact h.symm
      · simp
    have e2 : idxN c s 0 = Lib.indexByte t.data.toList c.toUInt8 := by rw [← ht, idx_ok hc]; exact e
    rw [run_callFunc_extern hf q1 hb q2 q3, Lib.run_indexByteString, hc', ← e2]
    exact this
end
end Go.Xn
/- A law's function, run: it returns true and writes nothing that was there. -/
namespace Go.Xn
set_option linter.all false
set_option linter.deprecated false
noncomputable section
open Go.RowKit
def okB (o : Option (List Out)) : Bool := match o with
  | some L => L.all fun r => match r.1 with | .bool b => b | _ => false
  | none => false
def noS : Sig := fun _ => none
theorem ok_nil {ρ : Rho} {w : World} (h : ∀ b x, ρ.fix b = some x → w.heap[b]? = some (.cells x.1 x.2.1 x.2.2)) : Ok ρ w noS .nil :=
  ⟨fun k o h => by simp [tget_nil] at h, fun k k' o o' p p' h => by simp [tget_nil] at h, fun b x hb => ⟨h b x hb, fun ⟨k, o, p, q, _⟩ => by simp [tget_nil] at q⟩⟩
/-- a call, the world behind it, what it hands back -/
theorem calls_of {P : Program} {ρ : Rho} {f nx : Nat} {M0 : Hp} {σ0 : Sig} {vs : List Value} {w : World} {R : Out → Prop}
    (h : ∀ (o : Oper) (a : Act) (K : Act → World → Prop) (Q : Exit → Act → World → Prop), (∀ v w', (∃ r, R r ∧ CPost ρ w σ0 M0 nx r v w') → K (a.put o.dst v) w') → o.upon P a K Q ((callFunc f vs.toArray).run P w))
    {fn : Func} (h1 : P.funcs[f]? = some fn) (h2 : (fn.name == "runtime.NumGoroutine") = false) (h3 : fn.body.isNone = false) :
    Calls P f vs.toArray w fun e w' => ∃ v r, e = .returned v ∧ R r ∧ CPost ρ w σ0 M0 nx r v w' := by
  have h := h { (default : Oper) with dst := some 0 } { tmps := #[undef], defers := [] } (fun a w' => ∃ r, R r ∧ CPost ρ w σ0 M0 nx r (a.tmps.getD 0 undef) w') (fun _ _ _ => False) (fun v w' hh => by
    simpa [Act.put] using hh)
  have hrun : (callFunc f vs.toArray).run P w = .ok (.enter f vs.toArray) w := by
    simp only [callFunc, Sem.run_bind, run_program, Result.andThen_ok, h1, h2, h3, Bool.false_eq_true, if_false, Sem.run_pure]
  rw [hrun] at h
  refine Calls.mono h fun e w' he => ?_
  cases e with
  | returned v =>
    obtain ⟨r, g1, g2⟩ := he
    simp only [Act.put] at g2
    exact ⟨v, r, rfl, g1, by simpa using g2⟩
  | panicked ch => exact he.elim
  | outgrown => obtain ⟨_, _, q⟩ := he; exact q.elim
theorem law_calls {P : Program} {ρ : Rho} {call : CallF} (hcall : CallOk P ρ call) {f nx : Nat} {args : List XV} {vs : List Value} {w : World} {M0 : Hp} {σ0 : Sig} (hok : Ok ρ w σ0 M0) (hno : ∀ b, ¬ Owned σ0 M0 b) (hfree : ∀ k, nx ≤ k → σ0 k = none)
    (h : okB (call f args M0 nx) = true) (hv : VRs ρ σ0 args vs) {fn : Func} (h1 : P.funcs[f]? = some fn) (h2 : (fn.name == "runtime.NumGoroutine") = false) (h3 : fn.body.isNone = false) :
    Calls P f vs.toArray w fun e w' => e = .returned (.bool true) ∧ Below w.heap.size w w' := by
  unfold okB at h
  split at h <;> (try (cases h; done))
  rename_i L hL
  refine Calls.mono (calls_of (R := fun r => r ∈ L) (fun o a K Q hK => hcall f args M0 nx L hL w σ0 vs hok hfree hv o a K Q hK) h1 h2 h3) fun e w' he => ?_
  obtain ⟨v, r, rfl, hr, σ', g1, _, g3, _⟩ := he
  have hb := List.all_eq_true.1 h r hr
  split at hb <;> (try (cases hb; done))
  rename_i b hrv
  subst hb
  rw [hrv] at g1
  simp only [VR] at g1
  exact ⟨by rw [g1], g3.os, g3.tape, g3.output, g3.size, fun k hk => g3.blk k hk (hno k)⟩
theorem owned_nil (b : Nat) : ¬ Owned noS .nil b := fun ⟨_, _, _, q, _⟩ => by simp [tget_nil] at q
theorem names_ok {P : Program} (h : (P.funcs.toList.all fun fn => !(fn.name == "runtime.NumGoroutine")) = true) : ∀ (g : Nat) (fn : Func), P.funcs[g]? = some fn → (fn.name == "runtime.NumGoroutine") = false := fun g fn hf => by
  have := List.all_eq_true.1 h fn (by
    rw [← Array.getElem?_toList] at hf
    exact List.mem_of_getElem? hf)
  simpa using this
/-- integers held against zero -/
def zeroΓ (f : Nat → Option Bool) : Facts := fun i op c => match op, c with
  | .eql, .ofNat 0 => f i
  | _, _ => none
theorem zeroΓ_ok {ρ : Rho} {f : Nat → Option Bool} (h : ∀ i b, f i = some b → (ρ i == 0) = b) : ∀ i op c b k, zeroΓ f i op c = some b → binInt op k (ρ i) k c = some (.bool b) := by
  intro i op c b k hh
  unfold zeroΓ at hh
  split at hh <;> (try (cases hh; done))
  have := h i b hh
  simp only [binInt, decide_true]
  rw [← this]
  rfl
/-- integers of which it is known whether they are negative -/
def signΓ (f : Nat → Option Bool) : Facts := fun i op c => match op, c with
  | .lss, .ofNat 0 => f i
  | .geq, .ofNat 0 => match f i with | some b => some (!b) | none => none
  | _, _ => none
theorem signΓ_ok {ρ : Rho} {f : Nat → Option Bool} (h : ∀ i b, f i = some b → decide (ρ i < 0) = b) : ∀ i op c b k, signΓ f i op c = some b → binInt op k (ρ i) k c = some (.bool b) := by
  intro i op c b k hh
  unfold signΓ at hh
  split at hh <;> (try (cases hh; done))
  · have := h i b hh
    simp only [binInt, decide_true]
    rw [← this]
    rfl
  · split at hh <;> (try (cases hh; done))
    rename_i b' hb
    cases hh
    have := h i b' hb
    simp only [binInt, decide_true, Option.some.injEq, XV.bool.injEq]
    rw [← this]
    have e : (Int.ofNat 0 ≤ ρ i) ↔ ¬ ρ i < 0 := by simp
    by_cases hn : ρ i < 0
    · simp [hn]
    · simp [hn]; omega
end
end Go.Xn
/- Functions of which it is known what they hand back: by a contract 'below the heap's end the world is as it was'; a law's examples. -/
namespace Go.Xn
set_option linter.all false
set_option linter.deprecated false
noncomputable section
open Go.RowKit
theorem below_ok {ρ : Rho} {σ : Sig} {M : Hp} {w w' : World} (h : Below w.heap.size w w') (hok : Ok ρ w σ M) : Ok ρ w' σ M ∧ Ext w σ M w' σ M := by
  have e : Ext w σ M w' σ M := ⟨h.os, h.tape, h.output, h.size, fun b hb _ => h.block b hb, fun _ q => .inl q, fun _ _ q => q, fun _ q => .inl q⟩
  refine Ok.mk' hok e (fun k o hk => ?_) hok.inj
  obtain ⟨p, hp, ho⟩ := hok.obj k o hk
  exact ⟨p, hp, OR.mono (fun _ _ q => q) (h.block _ ho.lt) ho⟩
/-- a function's contract serves a call -/
theorem calls_upon {P : Program} {ρ : Rho} {σ : Sig} {M : Hp} {w : World} {f : FuncId} {fn : Func} {vs : Array Value} {u : Value} {v : XV} (hok : Ok ρ w σ M) (h1 : P.funcs[f]? = some fn) (h2 : (fn.name == "runtime.NumGoroutine") = false) (h3 : fn.body.isNone = false)
    (h : Calls P f vs w fun e w' => e = .returned u ∧ Below w.heap.size w w') (hv : VR ρ σ v u) {o : Oper} {a : Act} {K : Act → World → Prop} {Q : Exit → Act → World → Prop} (hK : ∀ u w', VR ρ σ v u → Ok ρ w' σ M → Ext w σ M w' σ M → K (a.put o.dst u) w') :
    o.upon P a K Q ((callFunc f vs).run P w) := by
  have hrun : (callFunc f vs).run P w = .ok (.enter f vs) w := by
    simp only [callFunc, Sem.run_bind, run_program, Result.andThen_ok, h1, h2, h3, Bool.false_eq_true, if_false, Sem.run_pure]
  rw [hrun]
  refine Calls.mono h fun e w' he => ?_
  obtain ⟨rfl, hb⟩ := he
  obtain ⟨q1, q2⟩ := below_ok hb hok
  exact hK u w' hv q1 q2
/-- a function without parameters that returns true (a law's examples) -/
def extTrue (f : Nat) : ExtF := fun g args _ => match Nat.beq g f, args with
  | true, [] => some (.bool true)
  | _, _ => none
theorem extTrue_ok {P : Program} {ρ : Rho} {f : Nat} {fn : Func} (h1 : P.funcs[f]? = some fn) (h2 : (fn.name == "runtime.NumGoroutine") = false) (h3 : fn.body.isNone = false)
    (h : ∀ w, Calls P f #[] w fun e w' => e = .returned (.bool true) ∧ Below w.heap.size w w') : ExtOk P ρ (extTrue f) := by
  intro g args M v hv w σ vs hok hvs o a K Q hK
  unfold extTrue at hv
  split at hv <;> (try (cases hv; done))
  rename_i hg
  cases hv
  have := Nat.eq_of_beq_eq_true hg
  subst this
  simp only [VRs] at hvs
  subst hvs
  exact calls_upon hok h1 h2 h3 (h w) (by simp only [VR]) hK
end
end Go.Xn
/- strings.Join as a known function: given its contract, the texts are read out of the numbered objects. -/
namespace Go.Xn
set_option linter.all false
set_option linter.deprecated false
noncomputable section
open Go.RowKit
def strsX : List XV → Option (List (List Nat))
  | [] => some []
  | .str s :: vs => match strsX vs with | some l => some (s :: l) | none => none
  | _ => none
def joinTl (sep : List Nat) : List (List Nat) → List Nat
  | [] => []
  | x :: xs => sep ++ (x ++ joinTl sep xs)
def joinX (sep : List Nat) : List (List Nat) → List Nat
  | [] => []
  | x :: xs => x ++ joinTl sep xs
/-- strings.Join, function f -/
def extJoin (f : Nat) : ExtF := fun g args M => match Nat.beq g f, args with
  | true, [.sl n 1 off len cap, .str sep] => match hrow M n with
    | some cs => match Nat.ble 1 len, Nat.ble len big, Nat.ble (off + len) cs.length, strsX ((cs.drop off).take len) with
      | true, true, true, some xs => match Nat.ble (joinX sep xs).length big with
        | true => some (.str (joinX sep xs))
        | false => none
      | _, _, _, _ => none
    | none => none
  | _, _ => none
abbrev nbl (l : List UInt8) : List Nat := l.map fun b => b.toNat
theorem joinTl_ok (sep : List UInt8) : ∀ (xs : List (List UInt8)), joinTl (nbl sep) (xs.map nbl) = nbl (Lib.joinTail sep xs)
  | [] => rfl
  | x :: xs => by
    simp only [List.map_cons, joinTl, joinTl_ok sep xs]
    simp [Lib.joinTail, nbl]
theorem joinX_ok (sep : List UInt8) (xs : List (List UInt8)) : joinX (nbl sep) (xs.map nbl) = nbl (Lib.join xs sep) := by
  cases xs with
  | nil => rfl
  | cons x xs =>
    rw [List.map_cons, joinX, joinTl_ok, Lib.join_cons]
    simp [nbl]
theorem strsX_ok {ρ : Rho} {σ : Sig} : ∀ {cs : List XV} {xs : List (List Nat)} {us : List Value}, strsX cs = some xs → VRs ρ σ cs us → ∃ ts : List ByteArray, us = ts.map .string ∧ ts.map (fun t => nbl t.data.toList) = xs
  | [], xs, us, h, hv => by
    simp only [strsX, Option.some.injEq] at h
    subst h
    simp only [VRs] at hv
    exact ⟨[], hv, rfl⟩
  | c :: cs, xs, us, h, hv => by
    unfold strsX at h
    split at h <;> (try (cases h; done))
    · rename_i e; cases e
    · rename_i s vs e
      cases e
      split at h <;> (try (cases h; done))
      rename_i l hl
      cases h
      simp only [VRs, VR] at hv
      obtain ⟨u, us', rfl, ⟨t, rfl, ht⟩, hv⟩ := hv
      obtain ⟨ts, e1, e2⟩ := strsX_ok hl hv
      exact ⟨t :: ts, by rw [e1]; rfl, by rw [List.map_cons, e2, ← ht]⟩
theorem extJoin_ok {P : Program} {ρ : Rho} {f : Nat} {fn : Func} (h1 : P.funcs[f]? = some fn) (h2 : (fn.name == "runtime.NumGoroutine") = false) (h3 : fn.body.isNone = false)
    (hJ : ∀ (bk o c : Nat) (xs : List ByteArray) (sep : ByteArray) (w : World), (∀ (j : Nat) x, xs[j]? = some x → w.cell? ⟨bk, o + j, none⟩ = some (.string x)) → bk < w.heap.size → xs.length ≤ 140737488355328 → xs.length ≤ c →
      (Lib.join (xs.map (·.data.toList)) sep.data.toList).length ≤ 140737488355328 →
      Calls P f #[.slice (some ⟨bk, o, none⟩) xs.length c, .string sep] w fun e w' => e = .returned (.string ⟨(Lib.join (xs.map (·.data.toList)) sep.data.toList).toArray⟩) ∧ Below w.heap.size w w') : ExtOk P ρ (extJoin f) := by
  intro g args M v hv w σ vs hok hvs o a K Q hK
  unfold extJoin at hv
  split at hv <;> (try (cases hv; done))
  rename_i n off len cap sep hg
  split at hv <;> (try (cases hv; done))
  rename_i cs hcs
  split at hv <;> (try (cases hv; done))
  rename_i xs hlen hlb hoff hxs
  split at hv <;> (try (cases hv; done))
  rename_i hbig
  cases hv
  have := Nat.eq_of_beq_eq_true hg
  subst this
  have hlen := Nat.le_of_ble_eq_true hlen
  have hoff := Nat.le_of_ble_eq_true hoff
  have hbig := Nat.le_of_ble_eq_true hbig
  unfold big at hbig
  simp only [VRs, VR] at hvs
  obtain ⟨u1, us1, rfl, ⟨b, room, cap', off', hσ, rfl, q1, q2, q3, q4⟩, u2, us2, rfl, ⟨tsep, rfl, hsep⟩, rfl⟩ := hvs
  have q3 : off' = off := by rcases q3 with q | q <;> omega
  subst q3
  obtain ⟨b', room', us, t, fz, hm, hs', hh, hsz, hcl, hfz, hvr⟩ := hrow_ok hok hcs
  rw [hσ] at hs'
  cases hs'
  obtain ⟨ws, g1, g2, g3⟩ := row_cells hh hvr off' len hoff
  obtain ⟨ts, e1, e2⟩ := strsX_ok hxs g1
  have htl : ts.length = len := by rw [← g2, e1, List.length_map]
  have hlb := Nat.le_of_ble_eq_true hlb
  unfold big at hlb
  have hj := joinX_ok tsep.data.toList (ts.map (·.data.toList))
  have e3 : (ts.map (·.data.toList)).map nbl = xs := by rw [← e2, List.map_map]; rfl
  have hjl : joinX sep xs = nbl (Lib.join (ts.map (·.data.toList)) tsep.data.toList) := by rw [← e3, ← hj, ← hsep]
  have hc := hJ b off' cap' ts tsep w (fun j x hx => g3 j _ (by rw [e1, List.getElem?_map, hx]; rfl)) (Array.getElem?_eq_some_iff.1 hh).1 (by omega) (by omega) (by
    rw [hjl] at hbig
    simp only [nbl, List.length_map] at hbig
    omega)
  rw [htl] at hc
  refine calls_upon hok h1 h2 h3 hc ?_ hK
  simp only [VR]
  exact ⟨_, rfl, by rw [hjl]⟩
end
end Go.Xn
/- strings.Join of texts with parts not known. -/
namespace Go.Xn
set_option linter.all false
set_option linter.deprecated false
noncomputable section
open Go.RowKit
def txtsX : List XV → Option (List (List Pc))
  | [] => some []
  | .str s :: vs => match txtsX vs with | some l => some (pcs s :: l) | none => none
  | .txt p :: vs => match txtsX vs with | some l => some (p :: l) | none => none
  | _ => none
def joinTlP (sep : List Pc) : List (List Pc) → List Pc
  | [] => []
  | x :: xs => sep ++ (x ++ joinTlP sep xs)
def joinP (sep : List Pc) : List (List Pc) → List Pc
  | [] => []
  | x :: xs => x ++ joinTlP sep xs
def extJoinT (f : Nat) : ExtF := fun g args M => match Nat.beq g f, args with
  | true, [.sl n 1 off len cap, .str sep] => match hrow M n with
    | some cs => match Nat.ble 1 len, Nat.ble len big, Nat.ble (off + len) cs.length, txtsX ((cs.drop off).take len) with
      | true, true, true, some xs => match Nat.ble (pcN (joinP (pcs sep) xs)) big with
        | true => some (.txt (joinP (pcs sep) xs))
        | false => none
      | _, _, _, _ => none
    | none => none
  | _, _ => none
def TxtsR (ρ : Rho) : List (List Pc) → List ByteArray → Prop
  | [], ts => ts = []
  | p :: ps, ts => ∃ t ts', ts = t :: ts' ∧ (nbl t.data.toList = txtOf ρ p ∧ t.data.toList.length ≤ pcN p) ∧ TxtsR ρ ps ts'
theorem txtsX_ok {ρ : Rho} {σ : Sig} : ∀ {cs : List XV} {xs : List (List Pc)} {us : List Value}, txtsX cs = some xs → VRs ρ σ cs us → ∃ ts : List ByteArray, us = ts.map .string ∧ TxtsR ρ xs ts
  | [], xs, us, h, hv => by
    simp only [txtsX, Option.some.injEq] at h
    subst h
    simp only [VRs] at hv
    exact ⟨[], hv, rfl⟩
  | c :: cs, xs, us, h, hv => by
    unfold txtsX at h
    simp only [VRs] at hv
    obtain ⟨u, us', rfl, hc, hv⟩ := hv
    split at h <;> (try (cases h; done))
    · rename_i e; cases e
    · rename_i s vs e
      cases e
      split at h <;> (try (cases h; done))
      rename_i l hl
      cases h
      obtain ⟨t, rfl, ht⟩ := TxtR.str hc
      obtain ⟨ts, e1, e2⟩ := txtsX_ok hl hv
      exact ⟨t :: ts, by rw [e1]; rfl, t, ts, rfl, ht, e2⟩
    · rename_i p vs e
      cases e
      split at h <;> (try (cases h; done))
      rename_i l hl
      cases h
      simp only [VR] at hc
      obtain ⟨t, rfl, ht⟩ := hc
      obtain ⟨ts, e1, e2⟩ := txtsX_ok hl hv
      exact ⟨t :: ts, by rw [e1]; rfl, t, ts, rfl, ht, e2⟩
theorem joinTlP_ok {ρ : Rho} (sep : List UInt8) : ∀ {ps : List (List Pc)} {ts : List ByteArray}, TxtsR ρ ps ts → nbl (Lib.joinTail sep (ts.map (·.data.toList))) = txtOf ρ (joinTlP (pcs (nbl sep)) ps) ∧ (Lib.joinTail sep (ts.map (·.data.toList))).length ≤ pcN (joinTlP (pcs (nbl sep)) ps)
  | [], ts, h => by simp only [TxtsR] at h; subst h; exact ⟨rfl, Nat.le_refl _⟩
  | p :: ps, ts, h => by
    simp only [TxtsR] at h
    obtain ⟨t, ts, rfl, ⟨h1, h2⟩, h⟩ := h
    obtain ⟨e1, e2⟩ := joinTlP_ok sep h
    have e3 : Lib.joinTail sep ((t :: ts).map (·.data.toList)) = sep ++ t.data.toList ++ Lib.joinTail sep (ts.map (·.data.toList)) := by simp [Lib.joinTail]
    rw [e3]
    constructor
    · simp only [joinTlP, txtOf_app, pcs_txt, ← e1, ← h1]; simp [nbl]
    · simp only [joinTlP, pcN_app, pcs_len, List.length_append, List.length_map]; omega
theorem joinP_ok {ρ : Rho} (sep : List UInt8) {ps : List (List Pc)} {ts : List ByteArray} (h : TxtsR ρ ps ts) : nbl (Lib.join (ts.map (·.data.toList)) sep) = txtOf ρ (joinP (pcs (nbl sep)) ps) ∧ (Lib.join (ts.map (·.data.toList)) sep).length ≤ pcN (joinP (pcs (nbl sep)) ps) := by
  cases ps with
  | nil => simp only [TxtsR] at h; subst h; exact ⟨rfl, Nat.le_refl _⟩
  | cons p ps =>
    simp only [TxtsR] at h
    obtain ⟨t, ts, rfl, ⟨h1, h2⟩, h⟩ := h
    obtain ⟨e1, e2⟩ := joinTlP_ok sep h
    rw [List.map_cons, Lib.join_cons]
    constructor
    · simp only [joinP, txtOf_app, ← e1, ← h1]; simp [nbl]
    · simp only [joinP, pcN_app, List.length_append]; omega
theorem TxtsR.length {ρ : Rho} : ∀ {ps : List (List Pc)} {ts : List ByteArray}, TxtsR ρ ps ts → ts.length = ps.length
  | [], ts, h => by simp only [TxtsR] at h; subst h; rfl
  | p :: ps, ts, h => by
    simp only [TxtsR] at h
    obtain ⟨t, ts, rfl, _, h⟩ := h
    simp [h.length]
theorem extJoinT_ok {P : Program} {ρ : Rho} {f : Nat} {fn : Func} (h1 : P.funcs[f]? = some fn) (h2 : (fn.name == "runtime.NumGoroutine") = false) (h3 : fn.body.isNone = false)
    (hJ : ∀ (bk o c : Nat) (xs : List ByteArray) (sep : ByteArray) (w : World), (∀ (j : Nat) x, xs[j]? = some x → w.cell? ⟨bk, o + j, none⟩ = some (.string x)) → bk < w.heap.size → xs.length ≤ 140737488355328 → xs.length ≤ c →
      (Lib.join (xs.map (·.data.toList)) sep.data.toList).length ≤ 140737488355328 →
      Calls P f #[.slice (some ⟨bk, o, none⟩) xs.length c, .string sep] w fun e w' => e = .returned (.string ⟨(Lib.join (xs.map (·.data.toList)) sep.data.toList).toArray⟩) ∧ Below w.heap.size w w') : ExtOk P ρ (extJoinT f) := by
  intro g args M v hv w σ vs hok hvs o a K Q hK
  unfold extJoinT at hv
  split at hv <;> (try (cases hv; done))
  rename_i n off len cap sep hg
  split at hv <;> (try (cases hv; done))
  rename_i cs hcs
  split at hv <;> (try (cases hv; done))
  rename_i xs hlen hlb hoff hxs
  split at hv <;> (try (cases hv; done))
  rename_i hbig
  cases hv
  have := Nat.eq_of_beq_eq_true hg
  subst this
  have hlen := Nat.le_of_ble_eq_true hlen
  have hlb := Nat.le_of_ble_eq_true hlb
  have hoff := Nat.le_of_ble_eq_true hoff
  have hbig := Nat.le_of_ble_eq_true hbig
  unfold big at hbig hlb
  simp only [VRs, VR] at hvs
  obtain ⟨u1, us1, rfl, ⟨b, room, cap', off', hσ, rfl, q1, q2, q3, q4⟩, u2, us2, rfl, ⟨tsep, rfl, hsep⟩, rfl⟩ := hvs
  have q3 : off' = off := by rcases q3 with q | q <;> omega
  subst q3
  obtain ⟨b', room', us, t, fz, hm, hs', hh, hsz, hcl, hfz, hvr⟩ := hrow_ok hok hcs
  rw [hσ] at hs'
  cases hs'
  obtain ⟨ws, g1, g2, g3⟩ := row_cells hh hvr off' len hoff
  obtain ⟨ts, e1, e2⟩ := txtsX_ok hxs g1
  have htl : ts.length = len := by rw [← g2, e1, List.length_map]
  obtain ⟨j1, j2⟩ := joinP_ok tsep.data.toList e2
  have hsep' : nbl tsep.data.toList = sep := hsep
  rw [hsep'] at j1 j2
  have hc := hJ b off' cap' ts tsep w (fun j x hx => g3 j _ (by rw [e1, List.getElem?_map, hx]; rfl)) (Array.getElem?_eq_some_iff.1 hh).1 (by omega) (by omega) (by omega)
  rw [htl] at hc
  refine calls_upon hok h1 h2 h3 hc ?_ hK
  simp only [VR]
  exact ⟨_, rfl, j1, j2⟩
end
end Go.Xn
/- Functions that tell an unknown number's decimal numeral, as known functions; what stands in a block that stays. -/
namespace Go.Xn
set_option linter.all false
set_option linter.deprecated false
noncomputable section
open Go.RowKit
theorem tab_of_fix {P : Program} {ρ : Rho} {w : World} {σ : Sig} {M : Hp} (hok : Ok ρ w σ M) {name : String} {k : IntKind} {zs : List Int} {g : Nat} (hg : P.globalNamed name = some g) {x : Array Value × TypeId × (Nat × Nat)} (hf : ρ.fix g = some x)
    (hx : x.1 = (zs.map fun z => Value.int k z).toArray) : Lib.TabIs P w name k zs := by
  unfold Lib.TabIs World.var?
  rw [hg, Option.bind_some, (hok.fix g x hf).1, hx]
/-- a table that is laid, as a block that stays -/
theorem fix_of_tab {P : Program} {w : World} {name : String} {k : IntKind} {zs : List Int} {g : Nat} (hg : P.globalNamed name = some g) (h : Lib.TabIs P w name k zs) :
    ∃ x : Array Value × TypeId × (Nat × Nat), w.heap[g]? = some (.cells x.1 x.2.1 x.2.2) ∧ x.1 = (zs.map fun z => Value.int k z).toArray := by
  unfold Lib.TabIs World.var? at h
  rw [hg, Option.bind_some] at h
  split at h
  · rename_i cs t fz hh
    cases h
    exact ⟨(_, t, fz), hh, rfl⟩
  · cases h
def fixOne (g : Nat) (x : Array Value × TypeId × (Nat × Nat)) : Nat → Option (Array Value × TypeId × (Nat × Nat)) := fun b => if b = g then some x else none
def extZ (f : Nat) (k : IntKind) (is : List Nat) (tl : Option Int) : ExtF := fun g args _ => match Nat.beq g f, args, tl with
  | true, [.si k' i], none => match decide (k' = k), lmem is i with
    | true, true => some (.txt [.z i])
    | _, _ => none
  | true, [.si k' i, .int .i64 c], some b => match decide (k' = k), lmem is i, decide (c = b) with
    | true, true, true => some (.txt [.z i])
    | _, _, _ => none
  | _, _, _ => none
def tlV : Option Int → List Value
  | none => []
  | some b => [.int .i64 b]
theorem extZ_ok {P : Program} {ρ : Rho} {f : Nat} {k : IntKind} {is : List Nat} {tl : Option Int} {fn : Func} (h1 : P.funcs[f]? = some fn) (h2 : (fn.name == "runtime.NumGoroutine") = false) (h3 : fn.body.isNone = false)
    (hlen : ∀ i ∈ is, (Lib.itoa (ρ i)).length ≤ 21)
    (hcall : ∀ (w : World) (σ : Sig) (M : Hp) (i : Nat), Ok ρ w σ M → i ∈ is → Calls P f (.int k (ρ i) :: tlV tl).toArray w fun e w' => e = .returned (.string ⟨(Lib.itoa (ρ i)).toArray⟩) ∧ Below w.heap.size w w') : ExtOk P ρ (extZ f k is tl) := by
  intro g args M v hv w σ vs hok hvs o a K Q hK
  unfold extZ at hv
  have main : ∀ i, i ∈ is → vs = .int k (ρ i) :: tlV tl → v = .txt [.z i] → g = f → o.upon P a K Q ((callFunc g vs.toArray).run P w) := by
    intro i hi hvs' hv' hg
    subst hvs' hv' hg
    refine calls_upon hok h1 h2 h3 (hcall w σ M i hok hi) ?_ hK
    simp only [VR]
    refine ⟨_, rfl, ?_, ?_⟩
    · simp [txtOf]
    · simpa [pcN] using hlen i hi
  split at hv <;> (try (cases hv; done))
  · rename_i k' i hg
    split at hv <;> (try (cases hv; done))
    rename_i hk hi
    cases hv
    have hk := of_decide_eq_true hk
    subst hk
    simp only [VRs, VR] at hvs
    obtain ⟨u, us', rfl, rfl, rfl⟩ := hvs
    exact main i ((lmem_iff _ _).1 hi) rfl rfl (Nat.eq_of_beq_eq_true hg)
  · rename_i k' i c b hg
    split at hv <;> (try (cases hv; done))
    rename_i hk hi hc
    cases hv
    have hk := of_decide_eq_true hk
    have hc := of_decide_eq_true hc
    subst hk hc
    simp only [VRs, VR] at hvs
    obtain ⟨u, us', rfl, rfl, u2, us2, rfl, rfl, rfl⟩ := hvs
    exact main i ((lmem_iff _ _).1 hi) rfl rfl (Nat.eq_of_beq_eq_true hg)
end
end Go.Xn
