/- One symbolic state fits into another. -/
import Derived.Test.YtckgeadidjmpcaaAmPartB
import Derived.Deep.LoopGhost
import Derived.Below
import Derived.RowKit
import Derived.WalkKit
import Derived.ProofKit
import Derived.OpenShut
import Derived.ShutString
import Derived.ChangeOld
import Derived.Lib.MakeNoZero
import Derived.Laws.Externs
import Derived.Test.YtckgeadidjmpcaaProg
namespace Go.Am
set_option linter.all false
set_option linter.deprecated false
section
variable {w w0 : World} {I J I0 : Nat → Prop} {σ τ σ0 : Sig} {M M' M0 : MS}

def Bound (σ τ : Sig) (map : List (Nat × Option Nat)) : Prop := ∀ k x, kget map k = some x → τ k = (match x with | some a => σ a | none => some none)
structure Good (σ τ : Sig) (J : Nat → Prop) (f : Fs) : Prop where
  map : Bound σ τ f.map
  froz : ∀ b, Lent σ f.froz b → J b
  vc : ∀ p ∈ f.vc, p ()
structure Mono (f f' : Fs) : Prop where
  map : ∀ k x, kget f.map k = some x → kget f'.map k = some x
  new : ∀ k x, kget f'.map k = some x → kget f.map k = some x ∨ k ∈ f'.todo
  todo : ∀ k ∈ f.todo, k ∈ f'.todo
  froz : ∀ k ∈ f.froz, k ∈ f'.froz
  vc : ∀ p ∈ f.vc, p ∈ f'.vc
theorem Mono.refl (f : Fs) : Mono f f := ⟨fun _ _ h => h, fun _ _ h => .inl h, fun _ h => h, fun _ h => h, fun _ h => h⟩
theorem Mono.trans {f g h : Fs} (a : Mono f g) (b : Mono g h) : Mono f h :=
  ⟨fun k x hk => b.map k x (a.map k x hk), fun k x hk => by
    rcases b.new k x hk with h1 | h1
    · rcases a.new k x h1 with h2 | h2
      · exact .inl h2
      · exact .inr (b.todo k h2)
    · exact .inr h1, fun k hk => b.todo k (a.todo k hk), fun k hk => b.froz k (a.froz k hk), fun p hp => b.vc p (a.vc p hp)⟩
theorem Good.of {f f' : Fs} (h : Good σ τ J f') (m : Mono f f') : Good σ τ J f :=
  ⟨fun k x hk => h.map k x (m.map k x hk), fun b ⟨k, hk, r⟩ => h.froz b ⟨k, m.froz k hk, r⟩, fun p hp => h.vc p (m.vc p hp)⟩
theorem Mono.add (f : Fs) (p : Unit → Prop) : Mono f (f.add p) :=
  ⟨fun _ _ h => h, fun _ _ h => .inl h, fun _ h => h, fun _ h => h, fun q hq => List.mem_append_left _ hq⟩
theorem Good.add {f : Fs} {p : Unit → Prop} (h : Good σ τ J (f.add p)) : p () := h.vc p (List.mem_append_right _ (List.mem_singleton.2 rfl))
theorem bindKey_ok {f f' : Fs} {want : Nat} {x : Option Nat} (h : f.bindKey want x = some f') : Mono f f' ∧ kget f'.map want = some x := by
  unfold Fs.bindKey at h
  split at h
  · rename_i hn
    simp only [Option.some.injEq] at h
    subst h
    refine ⟨⟨fun k y hk => ?_, fun k y hk => ?_, fun k hk => List.mem_append_left _ hk, fun _ h => h, fun _ h => h⟩, by simp [kget, Nat.beq_refl]⟩
    · simp only [kget]
      split
      · rename_i hb
        have hb := Nat.eq_of_beq_eq_true hb
        subst hb
        rw [hn] at hk
        cases hk
      · exact hk
    · simp only [kget] at hk
      split at hk
      · rename_i hb
        have hb := Nat.eq_of_beq_eq_true hb
        subst hb
        exact .inr (List.mem_append_right _ (List.mem_singleton.2 rfl))
      · exact .inl hk
  · rename_i h0 hn
    split at h <;> (try (cases h; done))
    · split at h <;> (try (cases h; done))
      rename_i hb
      have hb := Nat.eq_of_beq_eq_true hb
      subst hb
      simp only [Option.some.injEq] at h
      subst h
      exact ⟨.refl f, hn⟩
    · simp only [Option.some.injEq] at h
      subst h
      exact ⟨.refl f, hn⟩
theorem Mono.frozAdd (f : Fs) (p : Unit → Prop) (n : Nat) : Mono f { (f.add p) with froz := f.froz ++ [n] } :=
  ⟨fun _ _ h => h, fun _ _ h => .inl h, fun _ h => h, fun _ h => List.mem_append_left _ h, fun q hq => List.mem_append_left _ hq⟩
theorem leB_iff {a b : Bool} (h : leB a b = true) : b = true → a = true := by cases a <;> cases b <;> simp_all [leB]
mutual
theorem fitV_ok (hok : Ok w I σ M) (hIJ : ∀ b, I b → J b) : ∀ (v v' : AV) (f f' : Fs), fitV M v v' f = some f' → Mono f f' ∧ (Good σ τ J f' → ∀ u, VR w I σ v u → VR w J τ v' u) := by
  intro v v' f f' h
  have KJ : Keep w I σ w J σ := ⟨fun _ _ => rfl, hIJ, fun _ _ h => h⟩
  unfold fitV at h
  split at h
  · simp only [Option.some.injEq] at h; subst h; exact ⟨.refl _, fun _ _ _ => by simp only [VR]⟩
  · simp only [Option.some.injEq] at h; subst h; exact ⟨.refl _, fun _ _ hu => by simpa only [VR] using hu⟩
  · split at h <;> (try (cases h; done))
    rename_i hk
    simp only [decide_eq_true_eq] at hk
    simp only [Option.some.injEq] at h; subst h hk
    exact ⟨.add _ _, fun g u hu => by have := g.add; simp only [VR] at hu ⊢; rw [← this]; exact hu⟩
  · simp only [Option.some.injEq] at h; subst h
    exact ⟨.add _ _, fun g u hu => by have := g.add; simp only [VR] at hu ⊢; rw [← this]; exact hu⟩
  · simp only [Option.some.injEq] at h; subst h
    exact ⟨.add _ _, fun g u hu => by have := g.add; simp only [VR] at hu ⊢; rw [← this]; exact hu⟩
  · simp only [Option.some.injEq] at h; subst h; exact ⟨.refl _, fun _ _ hu => by simpa only [VR] using hu⟩
  · simp only [Option.some.injEq] at h; subst h; exact ⟨.refl _, fun _ _ hu => by simpa only [VR] using hu⟩
  · simp only [Option.some.injEq] at h; subst h; exact ⟨.refl _, fun _ _ hu => by simpa only [VR] using hu⟩
  · simp only [Option.some.injEq] at h; subst h
    refine ⟨.add _ _, fun g u hu => ?_⟩
    have hy := g.add
    simp only [VR] at hu ⊢
    subst hu
    refine ⟨?_, by simp⟩
    simp only [Dat, D.toList, hy]
    exact ⟨none, 0, 0, rfl, rfl, Nat.le_refl _, Nat.zero_le _, fun _ => rfl, by simp, fun i hi => by omega⟩
  · split at h <;> (try (cases h; done))
    rename_i hl he
    simp only [Option.some.injEq] at h; subst h
    have he := shEqs_ok he
    subst he
    refine ⟨.add _ _, fun g u hu => ?_⟩
    have hy := g.add
    simp only [VR] at hu ⊢
    rw [← hy]
    exact ⟨Dat.keep (fun _ _ => rfl) hIJ _ _ _ hu.1, fun hn => hu.2 (leB_iff hl hn)⟩
  · rename_i cs ds
    obtain ⟨h1, h2⟩ := fitVs_ok hok hIJ cs ds f f' h
    refine ⟨h1, fun g u hu => ?_⟩
    simp only [VR] at hu ⊢
    obtain ⟨b, off, rfl, hu⟩ := hu
    exact ⟨b, off, rfl, (h2 g).2 b off hu⟩
  · rename_i m lo len
    split at h <;> (try (cases h; done))
    rename_i f1 hb
    simp only [Option.some.injEq] at h; subst h
    obtain ⟨m1, k1⟩ := bindKey_ok hb
    refine ⟨m1.trans (.add _ _), fun g u hu => ?_⟩
    have hy := g.add
    have hs := (g.of (.add _ _)).map _ _ k1
    simp only [VR] at hu ⊢
    rw [hs]
    exact ⟨hu, hy⟩
  · rename_i n lo len m lo' len'
    split at h <;> (try (cases h; done))
    rename_i f1 hb
    simp only [Option.some.injEq] at h; subst h
    obtain ⟨m1, k1⟩ := bindKey_ok hb
    refine ⟨m1.trans (.add _ _), fun g u hu => ?_⟩
    have hy := g.add
    have hs := (g.of (.add _ _)).map _ _ k1
    simp only [VR] at hu ⊢
    rw [hs, ← hy.1, ← hy.2]
    exact hu
  · rename_i n lo len e' ys
    split at h <;> (try (cases h; done))
    · rename_i nn e xs hm
      split at h <;> (try (cases h; done))
      rename_i he
      have he := shEqs_ok he
      subst he
      simp only [Option.some.injEq] at h; subst h
      refine ⟨.frozAdd _ _ _, fun g u hu => ?_⟩
      have hy : lo () + len () ≤ (xs ()).length ∧ ((xs ()).drop (lo ())).take (len ()) = ys () := g.vc _ (List.mem_append_right _ (List.mem_singleton.2 rfl))
      obtain ⟨p, hp, hr⟩ := ok_row hok (.inl hm)
      simp only [VR] at hu ⊢
      refine ⟨?_, by simp⟩
      rw [← hy.2]
      exact row_as_slice hp hr hu hy.1 hIJ fun q hq => g.froz _ ⟨n, List.mem_append_right _ (List.mem_singleton.2 rfl), q, by rw [hp, hq], rfl⟩
    · rename_i nn e xs hm
      split at h <;> (try (cases h; done))
      rename_i he
      have he := shEqs_ok he
      subst he
      simp only [Option.some.injEq] at h; subst h
      refine ⟨.frozAdd _ _ _, fun g u hu => ?_⟩
      have hy : lo () + len () ≤ (xs ()).length ∧ ((xs ()).drop (lo ())).take (len ()) = ys () := g.vc _ (List.mem_append_right _ (List.mem_singleton.2 rfl))
      obtain ⟨p, hp, hr⟩ := ok_row hok (.inr hm)
      simp only [VR] at hu ⊢
      refine ⟨?_, by simp⟩
      rw [← hy.2]
      exact row_as_slice hp hr hu hy.1 hIJ fun q hq => g.froz _ ⟨n, List.mem_append_right _ (List.mem_singleton.2 rfl), q, by rw [hp, hq], rfl⟩
  · rename_i n off m off'
    split at h <;> (try (cases h; done))
    rename_i ho
    have ho := Nat.eq_of_beq_eq_true ho
    subst ho
    obtain ⟨m1, k1⟩ := bindKey_ok h
    refine ⟨m1, fun g u hu => ?_⟩
    have hs := g.map _ _ k1
    simp only [VR] at hu ⊢
    rw [hs]
    exact hu
  · rename_i cs ds
    obtain ⟨h1, h2⟩ := fitVs_ok hok hIJ cs ds f f' h
    refine ⟨h1, fun g u hu => ?_⟩
    simp only [VR] at hu ⊢
    obtain ⟨us, rfl, hu⟩ := hu
    exact ⟨us, rfl, (h2 g).1 _ hu⟩
  · rename_i cs ds
    obtain ⟨h1, h2⟩ := fitVs_ok hok hIJ cs ds f f' h
    refine ⟨h1, fun g u hu => ?_⟩
    simp only [VR] at hu ⊢
    obtain ⟨us, rfl, hu⟩ := hu
    exact ⟨us, rfl, (h2 g).1 _ hu⟩
  · rename_i g0 cs g1 ds
    split at h <;> (try (cases h; done))
    rename_i hg
    have hg := Nat.eq_of_beq_eq_true hg
    subst hg
    obtain ⟨h1, h2⟩ := fitVs_ok hok hIJ cs ds f f' h
    refine ⟨h1, fun g u hu => ?_⟩
    simp only [VR] at hu ⊢
    obtain ⟨us, rfl, hu⟩ := hu
    exact ⟨us, rfl, (h2 g).1 _ hu⟩
  · split at h <;> (try (cases h; done))
    rename_i hg
    have hg := Nat.eq_of_beq_eq_true hg
    subst hg
    simp only [Option.some.injEq] at h; subst h
    exact ⟨.refl _, fun _ _ hu => by simpa only [VR] using hu⟩
  · cases h
theorem fitVs_ok (hok : Ok w I σ M) (hIJ : ∀ b, I b → J b) : ∀ (vs vs' : List AV) (f f' : Fs), fitVs M vs vs' f = some f' → Mono f f' ∧ (Good σ τ J f' → (∀ us, VRs w I σ vs us → VRs w J τ vs' us) ∧ ∀ b off, VRat w I σ vs b off → VRat w J τ vs' b off)
  | [], [], f, f', h => by
    simp only [fitVs, Option.some.injEq] at h; subst h
    exact ⟨.refl _, fun _ => ⟨fun us hu => by simpa only [VRs] using hu, fun _ _ _ => by simp only [VRat]⟩⟩
  | [], _ :: _, _, _, h => by simp [fitVs] at h
  | _ :: _, [], _, _, h => by simp [fitVs] at h
  | v :: vs, v' :: vs', f, f', h => by
    simp only [fitVs] at h
    split at h <;> (try (cases h; done))
    rename_i f1 hf1
    obtain ⟨a1, a2⟩ := fitV_ok hok hIJ v v' f f1 hf1
    obtain ⟨b1, b2⟩ := fitVs_ok hok hIJ vs vs' f1 f' h
    refine ⟨a1.trans b1, fun g => ⟨fun us hu => ?_, fun b off hu => ?_⟩⟩
    · simp only [VRs] at hu ⊢
      obtain ⟨u, us', rfl, hu, hus⟩ := hu
      exact ⟨u, us', rfl, a2 (g.of b1) u hu, (b2 g).1 us' hus⟩
    · simp only [VRat] at hu ⊢
      obtain ⟨⟨hb, u, hu1, hu2⟩, hus⟩ := hu
      exact ⟨⟨hIJ b hb, u, hu1, a2 (g.of b1) u hu2⟩, (b2 g).2 b (off + 1) hus⟩
end
end
end Go.Am
/- One symbolic state fits into another: the objects, and the whole. -/
namespace Go.Am
set_option linter.all false
set_option linter.deprecated false
section
variable {ds : List Deferred} {w w0 : World} {I J I0 : Nat → Prop} {σ τ σ0 : Sig} {M M' M0 : MS}

theorem LentOk.app {l l' : List Nat} (h : LentOk M l) (h' : LentOk M l') : LentOk M (l ++ l') := fun k hk => (List.mem_append.1 hk).elim (h k) (h' k)
theorem bindKey_froz {f f' : Fs} {want : Nat} {x : Option Nat} (h : f.bindKey want x = some f') : f'.froz = f.froz := by
  unfold Fs.bindKey at h
  split at h
  · simp only [Option.some.injEq] at h; subst h; rfl
  · split at h <;> (try (cases h; done))
    · split at h <;> (try (cases h; done))
      simp only [Option.some.injEq] at h; subst h; rfl
    · simp only [Option.some.injEq] at h; subst h; rfl
mutual
theorem fitV_lent : ∀ (v v' : AV) (f f' : Fs), fitV M v v' f = some f' → LentOk M f.froz → LentOk M f'.froz := by
  intro v v' f f' h hl
  unfold fitV at h
  split at h
  · cases h; exact hl
  · cases h; exact hl
  · split at h <;> (try (cases h; done))
    cases h; exact hl
  · cases h; exact hl
  · cases h; exact hl
  · cases h; exact hl
  · cases h; exact hl
  · cases h; exact hl
  · cases h; exact hl
  · split at h <;> (try (cases h; done))
    cases h; exact hl
  · exact fitVs_lent _ _ f f' h hl
  · split at h <;> (try (cases h; done))
    rename_i hb
    have e := bindKey_froz hb
    cases h
    show LentOk M _
    simp only [Fs.add]
    rw [e]; exact hl
  · split at h <;> (try (cases h; done))
    rename_i hb
    have e := bindKey_froz hb
    cases h
    show LentOk M _
    simp only [Fs.add]
    rw [e]; exact hl
  · split at h <;> (try (cases h; done))
    · rename_i nn e xs hm
      split at h <;> (try (cases h; done))
      cases h
      exact hl.app fun k hk => by rw [List.mem_singleton.1 hk]; exact ⟨nn, e, xs, .inl hm⟩
    · rename_i nn e xs hm
      split at h <;> (try (cases h; done))
      cases h
      exact hl.app fun k hk => by rw [List.mem_singleton.1 hk]; exact ⟨nn, e, xs, .inr hm⟩
  · split at h <;> (try (cases h; done))
    rw [bindKey_froz h]; exact hl
  · exact fitVs_lent _ _ f f' h hl
  · exact fitVs_lent _ _ f f' h hl
  · split at h <;> (try (cases h; done))
    exact fitVs_lent _ _ f f' h hl
  · split at h <;> (try (cases h; done))
    simp only [Option.some.injEq] at h; subst h; exact hl
  · cases h
theorem fitVs_lent : ∀ (vs vs' : List AV) (f f' : Fs), fitVs M vs vs' f = some f' → LentOk M f.froz → LentOk M f'.froz
  | [], [], f, f', h, hl => by simp only [fitVs, Option.some.injEq] at h; subst h; exact hl
  | [], _ :: _, _, _, h, _ => by simp [fitVs] at h
  | _ :: _, [], _, _, h, _ => by simp [fitVs] at h
  | v :: vs, v' :: vs', f, f', h, hl => by
    simp only [fitVs] at h
    split at h <;> (try (cases h; done))
    rename_i f1 hf1
    exact fitVs_lent vs vs' f1 f' h (fitV_lent v v' f f1 hf1 hl)
end
theorem fitVs_get (hok : Ok w I σ M) (hIJ : ∀ b, I b → J b) : ∀ (vs vs' : List AV) (f f' : Fs), fitVs M vs vs' f = some f' → Good σ τ J f' → vs'.length = vs.length ∧ ∀ t u, VR w I σ (lget vs t) u → VR w J τ (lget vs' t) u
  | [], [], f, f', h, _ => ⟨rfl, fun t u _ => by simp only [lget, VR]⟩
  | [], _ :: _, _, _, h, _ => by simp [fitVs] at h
  | _ :: _, [], _, _, h, _ => by simp [fitVs] at h
  | v :: vs, v' :: vs', f, f', h, g => by
    simp only [fitVs] at h
    split at h <;> (try (cases h; done))
    rename_i f1 hf1
    obtain ⟨a1, a2⟩ := fitV_ok hok hIJ v v' f f1 hf1
    obtain ⟨b1, b2⟩ := fitVs_ok (τ := τ) hok hIJ vs vs' f1 f' h
    obtain ⟨c1, c2⟩ := fitVs_get hok hIJ vs vs' f1 f' h g
    refine ⟨by simp [c1], fun t u hu => ?_⟩
    cases t with
    | zero => exact a2 (g.of b1) u hu
    | succ t => exact c2 t u hu
theorem fitO_ok (hok : Ok w I σ M) (hIJ : ∀ b, I b → J b) (a : Nat) (o o' : MObj) (f f' : Fs) (h : fitO M a o o' f = some f') :
    Mono f f' ∧ (mget M a = some o → LentOk M f.froz → LentOk M f'.froz) ∧ (Good σ τ J f' → (owns o' → owns o ∧ ∀ p b, foot o' p b → foot o p b) ∧ ∀ p, σ a = some p → OR w I σ p o → OR w J τ p o') := by
  have KJ : Keep w I σ w J σ := ⟨fun _ _ => rfl, hIJ, fun _ _ h => h⟩
  unfold fitO at h
  split at h
  · rename_i nn e xs nn' e' ys
    split at h <;> (try (cases h; done))
    rename_i hn he
    have he := shEqs_ok he
    subst he
    cases h
    refine ⟨.add _ _, fun _ hl => hl, fun g => ⟨fun _ => ⟨trivial, fun _ _ h => h⟩, fun p _ hp => ?_⟩⟩
    have hx : xs () = ys () := g.add
    cases p with
    | none => 
      simp only [OR] at hp ⊢
      exact ⟨by cases nn' <;> simp_all [leB], by rw [← hx]; exact hp.2.1, hp.2.2⟩
    | some p =>
      simp only [OR] at hp ⊢
      rw [← hx]
      exact ⟨RowR.keep KJ.blk KJ.mono rfl hp.1, fun h => hp.2 (by cases nn <;> cases nn' <;> simp_all [leB])⟩
  · rename_i nn e xs nn' e' ys
    split at h <;> (try (cases h; done))
    rename_i hn he
    have he := shEqs_ok he
    subst he
    cases h
    refine ⟨.add _ _, fun _ hl => hl, fun g => ⟨fun h => h.elim, fun p _ hp => ?_⟩⟩
    have hx : xs () = ys () := g.add
    cases p with
    | none => 
      simp only [OR] at hp ⊢
      exact ⟨by cases nn' <;> simp_all [leB], by rw [← hx]; exact hp.2.1, hp.2.2⟩
    | some p =>
      simp only [OR] at hp ⊢
      rw [← hx]
      exact ⟨RowR.keep KJ.blk KJ.mono rfl hp.1, hIJ _ hp.2⟩
  · rename_i nn e xs nn' e' ys
    split at h <;> (try (cases h; done))
    rename_i hn he
    have he := shEqs_ok he
    subst he
    cases h
    refine ⟨.frozAdd _ _ _, fun hm hl => hl.app fun k hk => by rw [List.mem_singleton.1 hk]; exact ⟨nn, e, xs, .inl hm⟩, fun g => ⟨fun h => h.elim, fun p hs hp => ?_⟩⟩
    have hx : xs () = ys () := g.vc _ (List.mem_append_right _ (List.mem_singleton.2 rfl))
    cases p with
    | none => 
      simp only [OR] at hp ⊢
      exact ⟨by cases nn' <;> simp_all [leB], by rw [← hx]; exact hp.2.1, hp.2.2⟩
    | some p =>
      simp only [OR] at hp ⊢
      rw [← hx]
      exact ⟨RowR.keep KJ.blk KJ.mono rfl hp.1, g.froz _ ⟨a, List.mem_append_right _ (List.mem_singleton.2 rfl), p, hs, rfl⟩⟩
  · rename_i cs ds
    obtain ⟨h1, h2⟩ := fitVs_ok (τ := τ) hok hIJ cs ds f f' h
    refine ⟨h1, fun _ => fitVs_lent _ _ _ _ h, fun g => ⟨fun _ => ⟨trivial, fun _ _ h => h⟩, fun p _ hp => ?_⟩⟩
    cases p with
    | none => exact hp.elim
    | some p =>
      simp only [OR] at hp ⊢
      obtain ⟨us, t, fz, e1, e2, e3⟩ := hp
      exact ⟨us, t, fz, e1, e2, (h2 g).1 _ e3⟩
  · rename_i e j xs e' j' ys
    split at h <;> (try (cases h; done))
    rename_i he hj
    have he := shEqs_ok he
    subst he
    have hj := Nat.eq_of_beq_eq_true hj
    subst hj
    cases h
    refine ⟨.add _ _, fun _ hl => hl, fun g => ⟨fun _ => ⟨trivial, fun _ _ h => h⟩, fun p _ hp => ?_⟩⟩
    have hx : xs () = ys () := g.add
    cases p with
    | none => simp only [OR] at hp ⊢; rw [← hx]; exact hp
    | some p => simp only [OR] at hp ⊢; rw [← hx]; exact hp
  · cases h

structure Weak (f f' : Fs) : Prop where
  map : ∀ k x, kget f.map k = some x → kget f'.map k = some x
  froz : ∀ k ∈ f.froz, k ∈ f'.froz
  vc : ∀ p ∈ f.vc, p ∈ f'.vc
theorem Mono.weak {f f' : Fs} (m : Mono f f') : Weak f f' := ⟨m.map, m.froz, m.vc⟩
theorem Weak.trans {f g h : Fs} (a : Weak f g) (b : Weak g h) : Weak f h :=
  ⟨fun k x hk => b.map k x (a.map k x hk), fun k hk => b.froz k (a.froz k hk), fun p hp => b.vc p (a.vc p hp)⟩
theorem Good.of' {f f' : Fs} (h : Good σ τ J f') (m : Weak f f') : Good σ τ J f :=
  ⟨fun k x hk => h.map k x (m.map k x hk), fun b ⟨k, hk, r⟩ => h.froz b ⟨k, m.froz k hk, r⟩, fun p hp => h.vc p (m.vc p hp)⟩
/-- what is known of an object that was fitted -/
def Fine (w : World) (I J : Nat → Prop) (σ τ : Sig) (M M' : MS) (k : Nat) : Option Nat → Prop
  | some a => ∃ o o', mget M a = some o ∧ mget M' k = some o' ∧ (owns o' → owns o ∧ ∀ p b, foot o' p b → foot o p b) ∧ ∀ p, σ a = some p → OR w I σ p o → OR w J τ p o'
  | none => ∃ y, mget M' k = some y ∧ OR w J τ none y
theorem fitObjs_ok (hok : Ok w I σ M) (hIJ : ∀ b, I b → J b) : ∀ (n : Nat) (f f' : Fs), fitObjs M M' n f = some f' → Weak f f' ∧ (LentOk M f.froz → LentOk M f'.froz) ∧
    (Good σ τ J f' → (∀ k x, kget f.map k = some x → k ∈ f.todo ∨ Fine w I J σ τ M M' k x) → ∀ k x, kget f'.map k = some x → Fine w I J σ τ M M' k x)
  | 0, _, _, h => by simp [fitObjs] at h
  | n + 1, f, f', h => by
    unfold fitObjs at h
    split at h
    · rename_i ht
      cases h
      refine ⟨⟨fun _ _ h => h, fun _ h => h, fun _ h => h⟩, id, fun _ hf k x hk => ?_⟩
      rcases hf k x hk with h | h
      · rw [ht] at h; cases h
      · exact h
    · rename_i k0 ks ht
      split at h
      · rename_i a o' hk0 hm'
        split at h <;> (try (cases h; done))
        rename_i o hm
        split at h <;> (try (cases h; done))
        rename_i f1 hf1
        obtain ⟨m1, m2, m3⟩ := fitO_ok (τ := τ) hok hIJ a o o' _ f1 hf1
        obtain ⟨i1, i2, i3⟩ := fitObjs_ok hok hIJ n f1 f' h
        have mw : Weak f f1 := ⟨m1.map, m1.froz, m1.vc⟩
        refine ⟨mw.trans i1, fun hl => i2 (m2 hm hl), fun g hf => i3 g fun k x hk => ?_⟩
        rcases m1.new k x hk with h1 | h1
        · rcases hf k x h1 with h2 | h2
          · rw [ht] at h2
            rcases List.mem_cons.1 h2 with rfl | h2
            · have h1 : kget f.map k = some x := h1
              rw [hk0] at h1
              cases h1
              obtain ⟨g1, g2⟩ := m3 (g.of' i1)
              exact .inr ⟨o, o', hm, hm', g1, g2⟩
            · exact .inl (m1.todo k h2)
          · exact .inr h2
        · exact .inl h1
      · rename_i s e ys hk0 hm'
        obtain ⟨i1, i2, i3⟩ := fitObjs_ok hok hIJ n _ f' h
        have mw : Weak f ({ f with todo := ks }.add fun _ => ys () = []) := ⟨fun _ _ h => h, fun _ h => h, fun _ h => List.mem_append_left _ h⟩
        refine ⟨mw.trans i1, fun hl => i2 hl, fun g hf => i3 g fun k x hk => ?_⟩
        rcases hf k x hk with h2 | h2
        · rw [ht] at h2
          rcases List.mem_cons.1 h2 with rfl | h2
          · have h1 : kget f.map k = some x := hk
            rw [hk0] at h1
            cases h1
            exact .inr ⟨_, hm', rfl, (g.of' i1).add, Nat.succ_pos _⟩
          · exact .inl h2
        · exact .inr h2
      · rename_i e j ys hk0 hm'
        split at h <;> (try (cases h; done))
        rename_i hjl
        have hjl : j < e.length := by rw [Nat.blt] at hjl; exact Nat.le_of_ble_eq_true hjl
        obtain ⟨i1, i2, i3⟩ := fitObjs_ok hok hIJ n _ f' h
        have mw : Weak f ({ f with todo := ks }.add fun _ => ys () = []) := ⟨fun _ _ h => h, fun _ h => h, fun _ h => List.mem_append_left _ h⟩
        refine ⟨mw.trans i1, fun hl => i2 hl, fun g hf => i3 g fun k x hk => ?_⟩
        rcases hf k x hk with h2 | h2
        · rw [ht] at h2
          rcases List.mem_cons.1 h2 with rfl | h2
          · have h1 : kget f.map k = some x := hk
            rw [hk0] at h1
            cases h1
            exact .inr ⟨_, hm', (g.of' i1).add, hjl⟩
          · exact .inl h2
        · exact .inr h2
      · cases h
theorem pins_ok {m : Nat} : ∀ (N : MS) (f f' : Fs), pins m N f = some f' → Mono f f' ∧ f'.froz = f.froz
  | [], f, f', h => by simp only [pins, Option.some.injEq] at h; subst h; exact ⟨.refl _, rfl⟩
  | (k, o) :: N, f, f', h => by
    unfold pins at h
    split at h
    · split at h <;> (try (cases h; done))
      rename_i f1 hf1
      obtain ⟨i1, i2⟩ := pins_ok N f1 f' h
      exact ⟨(bindKey_ok hf1).1.trans i1, by rw [i2, bindKey_froz hf1]⟩
    · exact pins_ok N f f' h
theorem covers_ok {map : List (Nat × Option Nat)} : ∀ {N : MS}, covers map N = true → ∀ k o, mget N k = some o → ∃ x, kget map k = some x
  | [], _, k, o, h => by simp [mget] at h
  | (k0, o0) :: N, hc, k, o, h => by
    unfold covers at hc
    split at hc <;> (try (cases hc; done))
    rename_i x hx
    simp only [mget] at h
    split at h
    · rename_i hb
      rw [← Nat.eq_of_beq_eq_true hb]
      exact ⟨_, hx⟩
    · exact covers_ok hc k o h
theorem diffKey_ok {a : Nat} : ∀ {l : List (Nat × Option Nat)}, diffKey a l = true → ∀ k, kget l k ≠ some (some a)
  | [], _, k, h => by simp [kget] at h
  | (k0, some b) :: l, hd, k, h => by
    unfold diffKey at hd
    split at hd <;> (try (cases hd; done))
    rename_i hb
    simp only [kget] at h
    split at h
    · simp only [Option.some.injEq] at h
      subst h
      rw [Nat.beq_refl] at hb; cases hb
    · exact diffKey_ok hd k h
  | (k0, none) :: l, hd, k, h => by
    unfold diffKey at hd
    simp only [kget] at h
    split at h
    · cases h
    · exact diffKey_ok hd k h
theorem keysOk_ok {froz : List Nat} {m nx : Nat} : ∀ {l : List (Nat × Option Nat)}, keysOk M' froz m nx l = true →
    (∀ k x, kget l k = some x → k < nx ∧ (k < m → x = some k) ∧ True ∧ ∀ a, x = some a → a ∈ froz → isImm (mget M' k) = true) ∧
    ∀ k k' a, kget l k = some (some a) → kget l k' = some (some a) → k = k'
  | [], _ => ⟨fun k x h => by simp [kget] at h, fun k k' a h => by simp [kget] at h⟩
  | (k0, none) :: l, hk => by
    unfold keysOk at hk
    split at hk <;> (try (cases hk; done))
    rename_i h1 h2
    have h1 : m ≤ k0 := Nat.le_of_ble_eq_true h1
    have h2 : k0 < nx := by rw [Nat.blt] at h2; exact Nat.le_of_ble_eq_true h2
    obtain ⟨i1, i2⟩ := keysOk_ok hk
    refine ⟨fun k x h => ?_, fun k k' a h h' => ?_⟩
    · simp only [kget] at h
      split at h
      · rename_i hb
        have hb := Nat.eq_of_beq_eq_true hb
        subst hb
        cases h
        exact ⟨h2, fun h => absurd h (by omega), trivial, fun a h => (by cases h)⟩
      · exact i1 k x h
    · simp only [kget] at h h'
      split at h
      · cases h
      · split at h'
        · cases h'
        · exact i2 k k' a h h'
  | (k0, some a0) :: l, hk => by
    unfold keysOk at hk
    split at hk <;> (try (cases hk; done))
    rename_i h1 h2 h3 h4
    have h1 : k0 < nx := by rw [Nat.blt] at h1; exact Nat.le_of_ble_eq_true h1
    have h2 := diffKey_ok h2
    obtain ⟨i1, i2⟩ := keysOk_ok hk
    refine ⟨fun k x h => ?_, fun k k' a h h' => ?_⟩
    · simp only [kget] at h
      split at h
      · rename_i hb
        have hb := Nat.eq_of_beq_eq_true hb
        subst hb
        cases h
        refine ⟨h1, fun h => ?_, trivial, fun a ha hf => ?_⟩
        · have hb : Nat.blt k0 m = true := by rw [Nat.blt]; exact Nat.ble_eq_true_of_le h
          rw [hb] at h4
          have h4 := Nat.eq_of_beq_eq_true h4
          rw [h4]
        · cases ha
          rw [(nmem_iff _ _).2 hf] at h3
          exact h3
      · exact i1 k x h
    · simp only [kget] at h h'
      split at h
      · rename_i hb
        have hb := Nat.eq_of_beq_eq_true hb
        subst hb
        split at h'
        · rename_i hb'
          exact Nat.eq_of_beq_eq_true hb'
        · cases h
          exact (h2 k' h').elim
      · split at h'
        · rename_i hb
          have hb := Nat.eq_of_beq_eq_true hb
          subst hb
          cases h'
          exact (h2 k h).elim
        · exact i2 k k' a h h'
theorem holds_iff : ∀ {l : List (Unit → Prop)}, holds l → ∀ p ∈ l, p ()
  | [], _, _, h => by cases h
  | [p], h, q, hq => by rw [List.mem_singleton.1 hq]; exact h.1
  | p :: q :: l, h, r, hr => by
    rcases List.mem_cons.1 hr with rfl | hr
    · exact h.1.1
    · exact holds_iff h.2 r hr

theorem fit_ok2 {a : Act} {m : Nat} {s s' : AState} (hm : ∀ k, m ≤ k → σ0 k = none) (hs : St ds w0 I0 σ0 M0 s.env s.M s.nx a w I σ) (h : fit m s s') :
    ∃ J τ, St ds w0 I0 σ0 M0 s'.env s'.M s'.nx a w J τ ∧ (∀ b, J b → I b ∨ Owned σ s.M b) ∧ ∀ b, Owned τ s'.M b → Owned σ s.M b := by
  unfold fit at h
  split at h
  · rename_i vc hfe
    have hvc := holds_iff h
    unfold fitEnv at hfe
    split at hfe <;> (try (cases hfe; done))
    rename_i f0 hf0
    split at hfe <;> (try (cases hfe; done))
    rename_i f1 hf1
    split at hfe <;> (try (cases hfe; done))
    rename_i f hf
    split at hfe <;> (try (cases hfe; done))
    rename_i hkeys hcov hmn
    cases hfe
    have hmn : m ≤ s'.nx := Nat.le_of_ble_eq_true hmn
    obtain ⟨hk1, hk2⟩ := keysOk_ok hkeys
    obtain ⟨τ, hτ⟩ : ∃ τ : Sig, τ = fun k => if k < m then σ k else match kget f.map k with | some (some a) => σ a | some none => some none | none => none := ⟨_, rfl⟩
    obtain ⟨J, hJ⟩ : ∃ J, J = Also I (Lent σ f.froz) := ⟨_, rfl⟩
    have hIJ : ∀ b, I b → J b := fun b hb => by rw [hJ]; exact .inl hb
    have hgood : Good σ τ J f := by
      refine ⟨fun k x hk => ?_, fun b hb => by rw [hJ]; exact .inr hb, hvc⟩
      obtain ⟨g1, g2, g3, g4⟩ := hk1 k x hk
      rw [hτ]
      simp only
      by_cases hkm : k < m
      · rw [if_pos hkm, g2 hkm]
      · rw [if_neg hkm, hk]
        cases x <;> rfl
    have p1 := pins_ok _ _ _ hf0
    have p2 := fitVs_ok (τ := τ) (J := J) hs.ok hIJ _ _ _ _ hf1
    obtain ⟨o1, o2, o3⟩ := fitObjs_ok (τ := τ) (J := J) hs.ok hIJ _ _ _ hf
    have hl0 : LentOk s.M f0.froz := by rw [p1.2]; intro k hk; cases hk
    have hlent : LentOk s.M f.froz := o2 (fitVs_lent _ _ _ _ hf1 hl0)
    have hfine := o3 hgood fun k x hk => by
      rcases (p1.1.trans p2.1).new k x hk with h | h
      · simp [kget] at h
      · exact .inl h
    have g1 : Good σ τ J f1 := hgood.of' o1
    obtain ⟨e1, e2⟩ := fitVs_get hs.ok hIJ _ _ _ _ hf1 g1
    -- an owned block of the new state was one of the old
    have hown : ∀ k o' p, mget s'.M k = some o' → owns o' → τ k = some (some p) → ∃ a o, kget f.map k = some (some a) ∧ mget s.M a = some o ∧ owns o ∧ σ a = some (some p) ∧ ∀ b, foot o' p b → foot o p b := by
      intro k o' p hk ho ht
      obtain ⟨x, hx⟩ := covers_ok hcov k o' hk
      have hb := hgood.map k x hx
      have hfn := hfine k x hx
      cases x with
      | none => simp only at hb; rw [ht] at hb; cases hb
      | some a =>
        simp only at hb
        simp only [Fine] at hfn
        obtain ⟨o, o'', q1, q2, q3, q4⟩ := hfn
        rw [hk] at q2
        cases q2
        exact ⟨a, o, hx, q1, (q3 ho).1, by rw [← hb]; exact ht, (q3 ho).2 p⟩
    have hlentI : ∀ b, Lent σ f.froz b → I b ∨ ∃ k nn e xs p, k ∈ f.froz ∧ mget s.M k = some (.row nn e xs) ∧ σ k = some (some p) ∧ p.b = b := by
      rintro b ⟨k, hk, p, hp, rfl⟩
      obtain ⟨nn, e, xs, hr | hr⟩ := hlent k hk
      · exact .inr ⟨k, nn, e, xs, p, hk, hr, hp, rfl⟩
      · obtain ⟨p', hp', hr'⟩ := hs.ok.obj k _ hr
        rw [hp] at hp'
        cases hp'
        exact .inl hr'.2
    refine ⟨J, τ, ?_, fun b hb => by
      rw [hJ] at hb
      rcases hb with hb | hb
      · exact .inl hb
      · rcases hlentI b hb with hb | ⟨k, nn, e, xs, p, _, hr, hp, hpb⟩
        · exact .inl hb
        · subst hpb; exact .inr ⟨k, _, p, hr, trivial, hp, foot_b _ p⟩, fun b ⟨k, o', p, hk, ho, ht, hpb⟩ => by
      obtain ⟨a, o, q1, q2, q3, q4, q5⟩ := hown k o' p hk ho ht
      exact ⟨a, o, p, q2, q3, q4, q5 b hpb⟩⟩
    constructor
    · intro t
      exact e2 t _ (hs.envr t)
    · rw [e1]; exact hs.len
    · constructor
      · intro b hb
        rw [hJ] at hb
        rcases hb with hb | hb
        · exact hs.ok.lt b hb
        · rcases hlentI b hb with hb | ⟨k, nn, e, xs, p, _, hr, hp, rfl⟩
          · exact hs.ok.lt b hb
          · exact hs.ok.blk_lt ⟨k, _, p, hr, trivial, hp, foot_b _ p⟩
      · intro k o' hk
        obtain ⟨x, hx⟩ := covers_ok hcov k o' hk
        have hb := hgood.map k x hx
        have hfn := hfine k x hx
        cases x with
        | none =>
          simp only [Fine] at hfn
          obtain ⟨y, q1, q2⟩ := hfn
          rw [hk] at q1
          cases q1
          exact ⟨none, hb, q2⟩
        | some a =>
          simp only [Fine] at hfn
          obtain ⟨o, o'', q1, q2, q3, q4⟩ := hfn
          rw [hk] at q2
          cases q2
          obtain ⟨p, hp, ho⟩ := hs.ok.obj a o q1
          simp only at hb
          exact ⟨p, by rw [hb]; exact hp, q4 p hp ho⟩
      · rintro b ⟨k, o', p, hk, ho, ht, hft⟩ hb
        obtain ⟨a, o, q1, q2, q3, q4, q5⟩ := hown k o' p hk ho ht
        have q6 := q5 b hft
        rw [hJ] at hb
        have nI : ¬ I b := hs.ok.sep _ ⟨a, o, p, q2, q3, q4, q6⟩
        rcases hb with hb | hb
        · exact nI hb
        · rcases hlentI _ hb with hb | ⟨k0, nn, e, xs, p0, h1, h2, h3, h4⟩
          · exact nI hb
          · subst h4
            have := hs.ok.inj k0 a _ o p0 p _ h2 q2 trivial q3 h3 q4 (foot_b _ p0) q6
            subst this
            have hi := (hk1 k _ q1).2.2.2 k0 rfl h1
            rw [hk] at hi
            cases o' with
            | imm nn e xs => exact ho
            | row nn e xs => cases hi
            | obj cs => cases hi
            | dp e j xs => cases hi
      · intro k k' o o' p p' b hk hk' ho ho' ht ht' hb hb'
        obtain ⟨a, x, q1, q2, q3, q4, q5⟩ := hown k o p hk ho ht
        obtain ⟨a', x', q1', q2', q3', q4', q5'⟩ := hown k' o' p' hk' ho' ht'
        have := hs.ok.inj a a' x x' p p' b q2 q2' q3 q3' q4 q4' (q5 b hb) (q5' b hb')
        subst this
        exact hk2 k k' a q1 q1'
    · intro k hk
      rw [hτ]
      simp only
      rw [if_neg (by omega)]
      cases hx : kget f.map k with
      | none => rfl
      | some x =>
        have := (hk1 k x hx).1
        omega
    · have hx := hs.ext
      refine ⟨hx.os, hx.tape, hx.output, hx.size, hx.blk, fun b hb => hIJ b (hx.mono b hb), fun b hb => ?_, fun b hb => ?_, fun k p hk => ?_⟩
      · rw [hJ] at hb
        rcases hb with hb | hb
        · exact hx.fresh b hb
        · rcases hlentI b hb with hb | ⟨k, nn, e, xs, p, _, hr, hp, rfl⟩
          · exact hx.fresh b hb
          · exact .inr (hx.own _ ⟨k, _, p, hr, trivial, hp, foot_b _ p⟩)
      · obtain ⟨k, o', p, hk, ho, ht, hft⟩ := hb
        obtain ⟨a, o, q1, q2, q3, q4, q5⟩ := hown k o' p hk ho ht
        exact hx.own _ ⟨a, o, p, q2, q3, q4, q5 b hft⟩
      · rw [hτ]
        simp only
        by_cases hkm : k < m
        · rw [if_pos hkm]; exact hx.sig k p hk
        · rw [hm k (by omega)] at hk; cases hk
    · exact hs.def0
  · exact h.elim
theorem fit_ok {a : Act} {m : Nat} {s s' : AState} (hm : ∀ k, m ≤ k → σ0 k = none) (hs : St ds w0 I0 σ0 M0 s.env s.M s.nx a w I σ) (h : fit m s s') :
    ∃ J τ, St ds w0 I0 σ0 M0 s'.env s'.M s'.nx a w J τ := let ⟨J, τ, h, _⟩ := fit_ok2 hm hs h; ⟨J, τ, h⟩
end
end Go.Am
/- Regions that draw their order: what is shown in the text's order holds in every order. -/
namespace Go.Am
set_option linter.all false
set_option linter.deprecated false
section
variable {P : Program} {w w' w0 : World} {I I' I0 : Nat → Prop} {σ σ' σ0 : Sig} {M M' M0 : MS} {T : TT} {G : Ctx}

structure Ent where
  dst : Option Nat
  val : AV
  rd : List Nat
  upd : List (Nat × Option MObj)
abbrev PS := List AV × MS
def Ent.app (x : Ent) (s : PS) : PS := (lset? s.1 x.dst x.val, mapply s.2 x.upd)
def runS (S : Nat → Bool) : List Ent → Nat → PS → PS
  | [], _, s => s
  | x :: xs, i, s => runS S xs (i + 1) (if S i then x.app s else s)

theorem mapply_not {k : Nat} : ∀ {us : List (Nat × Option MObj)} {M : MS}, k ∉ ukeys us → mget (mapply M us) k = mget M k
  | [], _, _ => rfl
  | (j, some o) :: us, M, h => by
    simp only [ukeys, List.mem_cons, not_or] at h
    simp only [mapply]
    rw [mapply_not h.2, mget_mset, if_neg (fun e => h.1 e.symm)]
  | (j, none) :: us, M, h => by
    simp only [ukeys, List.mem_cons, not_or] at h
    simp only [mapply]
    rw [mapply_not h.2, mget_mdel, if_neg (fun e => h.1 e.symm)]
theorem mapply_congr {k : Nat} : ∀ {us : List (Nat × Option MObj)} {M N : MS}, (k ∉ ukeys us → mget M k = mget N k) → mget (mapply M us) k = mget (mapply N us) k
  | [], _, _, h => h (by simp [ukeys])
  | (j, some o) :: us, M, N, h => by
    simp only [mapply]
    refine mapply_congr fun hk => ?_
    rw [mget_mset, mget_mset]
    by_cases e : j = k
    · rw [if_pos e, if_pos e]
    · rw [if_neg e, if_neg e]
      exact h (by simp only [ukeys, List.mem_cons, not_or]; exact ⟨fun q => e q.symm, hk⟩)
  | (j, none) :: us, M, N, h => by
    simp only [mapply]
    refine mapply_congr fun hk => ?_
    rw [mget_mdel, mget_mdel]
    by_cases e : j = k
    · rw [if_pos e, if_pos e]
    · rw [if_neg e, if_neg e]
      exact h (by simp only [ukeys, List.mem_cons, not_or]; exact ⟨fun q => e q.symm, hk⟩)
theorem runS_len (S : Nat → Bool) : ∀ (xs : List Ent) (i : Nat) (s : PS), (runS S xs i s).1.length = s.1.length
  | [], _, _ => rfl
  | x :: xs, i, s => by
    rw [runS, runS_len S xs]
    split
    · exact lset?_length _ _ _
    · rfl
theorem runS_slot {S S' : Nat → Bool} {t : Nat} : ∀ (xs : List Ent) (i : Nat) (s s' : PS), s.1.length = s'.1.length → lget s.1 t = lget s'.1 t →
    (∀ j x, xs[j]? = some x → x.dst = some t → S (i + j) = S' (i + j)) → lget (runS S xs i s).1 t = lget (runS S' xs i s').1 t
  | [], _, _, _, _, h, _ => h
  | x :: xs, i, s, s', hl, h, hs => by
    simp only [runS]
    have h0 : x.dst = some t → S i = S' i := fun hd => by have := hs 0 x rfl hd; simpa using this
    refine runS_slot xs (i + 1) _ _ ?_ ?_ fun j y hj hy => by
      have := hs (j + 1) y (by simpa using hj) hy
      rwa [show i + 1 + j = i + (j + 1) by omega]
    · split <;> split <;> simp [Ent.app, lset?_length, hl]
    · by_cases hd : x.dst = some t
      · rw [h0 hd]
        split
        · simp only [Ent.app, lset?_get, hl, h]
        · exact h
      · have e : ∀ s : PS, lget (x.app s).1 t = lget s.1 t := fun s => by simp only [Ent.app, lset?_get]; rw [if_neg (fun q => hd q.1)]
        split <;> split <;> simp only [e, h]
theorem runS_key {S S' : Nat → Bool} {k : Nat} : ∀ (xs : List Ent) (i : Nat) (s s' : PS), mget s.2 k = mget s'.2 k →
    (∀ j x, xs[j]? = some x → k ∈ ukeys x.upd → S (i + j) = S' (i + j)) → mget (runS S xs i s).2 k = mget (runS S' xs i s').2 k
  | [], _, _, _, h, _ => h
  | x :: xs, i, s, s', h, hs => by
    simp only [runS]
    have h0 : k ∈ ukeys x.upd → S i = S' i := fun hd => by have := hs 0 x rfl hd; simpa using this
    refine runS_key xs (i + 1) _ _ ?_ fun j y hj hy => by
      have := hs (j + 1) y (by simpa using hj) hy
      rwa [show i + 1 + j = i + (j + 1) by omega]
    by_cases hd : k ∈ ukeys x.upd
    · rw [h0 hd]
      split
      · exact mapply_congr fun _ => h
      · exact h
    · have e : ∀ s : PS, mget (x.app s).2 k = mget s.2 k := fun s => mapply_not hd
      split <;> split <;> simp only [e, h]
theorem runS_all {S S' : Nat → Bool} : ∀ (xs : List Ent) (i : Nat) (s : PS), (∀ j, j < xs.length → S (i + j) = S' (i + j)) → runS S xs i s = runS S' xs i s
  | [], _, _, _ => rfl
  | x :: xs, i, s, h => by
    simp only [runS]
    have h0 := h 0 (by simp)
    simp only [Nat.add_zero] at h0
    rw [h0]
    exact runS_all xs (i + 1) _ fun j hj => by
      have := h (j + 1) (by simpa using hj)
      rwa [show i + 1 + j = i + (j + 1) by omega]
theorem runS_none {S : Nat → Bool} : ∀ (xs : List Ent) (i : Nat) (s : PS), (∀ j, j < xs.length → S (i + j) = false) → runS S xs i s = s
  | [], _, _, _ => rfl
  | x :: xs, i, s, h => by
    simp only [runS]
    have h0 := h 0 (by simp)
    simp only [Nat.add_zero] at h0
    rw [h0]
    exact runS_none xs (i + 1) _ fun j hj => by
      have := h (j + 1) (by simpa using hj)
      rwa [show i + 1 + j = i + (j + 1) by omega]
theorem runS_append {S : Nat → Bool} : ∀ (xs ys : List Ent) (i : Nat) (s : PS), runS S (xs ++ ys) i s = runS S ys (i + xs.length) (runS S xs i s)
  | [], _, _, _ => rfl
  | x :: xs, ys, i, s => by
    simp only [List.cons_append, runS, List.length_cons]
    rw [runS_append xs ys, show i + 1 + xs.length = i + (xs.length + 1) by omega]
/-- the state ahead of the i-th, in the text's order -/
theorem runS_take (xs : List Ent) (i : Nat) (s : PS) : runS (fun _ => true) (xs.take i) 0 s = runS (fun j => decide (j < i)) xs 0 s := by
  conv => rhs; rw [← List.take_append_drop i xs]
  rw [runS_append, runS_none (List.drop i xs)]
  · exact runS_all _ _ _ fun j hj => by
      rw [List.length_take] at hj
      simp; omega
  · intro j hj
    rw [List.length_drop] at hj
    rw [List.length_take, Nat.min_eq_left (by omega)]
    simp
/-- one more that is done, and none behind it that writes where it writes -/
theorem runS_add {S : Nat → Bool} {xs : List Ent} {i : Nat} {x : Ent} {s : PS} (hx : xs[i]? = some x) (hi : S i = false)
    (h1 : ∀ j y, xs[j]? = some y → i < j → S j = true → ∀ t, x.dst = some t → y.dst ≠ some t) (h2 : ∀ j y, xs[j]? = some y → i < j → S j = true → ∀ k ∈ ukeys x.upd, k ∉ ukeys y.upd) :
    (∀ t, lget (runS (fun j => S j || decide (j = i)) xs 0 s).1 t = lget (x.app (runS S xs 0 s)).1 t) ∧ ∀ k, mget (runS (fun j => S j || decide (j = i)) xs 0 s).2 k = mget (x.app (runS S xs 0 s)).2 k := by
  obtain ⟨hil, hxe⟩ := List.getElem?_eq_some_iff.1 hx
  have hsplit : xs = xs.take i ++ x :: xs.drop (i + 1) := by rw [← hxe, ← List.drop_eq_getElem_cons hil, List.take_append_drop]
  have hlen : (xs.take i).length = i := by rw [List.length_take]; omega
  have hpost : ∀ j y, (xs.drop (i + 1))[j]? = some y → xs[i + 1 + j]? = some y := fun j y h => by rw [List.getElem?_drop] at h; exact h
  obtain ⟨S', hS'⟩ : ∃ S' : Nat → Bool, S' = fun j => S j || decide (j = i) := ⟨_, rfl⟩
  rw [← hS']
  have e1 : ∀ s, runS S' xs 0 s = runS S' (xs.drop (i + 1)) (i + 1) (x.app (runS S' (xs.take i) 0 s)) := fun s => by
    conv => lhs; rw [hsplit]
    rw [runS_append, hlen, Nat.zero_add, runS, hS']
    simp
  have e2 : runS S' (xs.take i) 0 s = runS S (xs.take i) 0 s := runS_all _ _ _ fun j hj => by
    rw [hlen] at hj
    simp [hS']; omega
  have e3 : ∀ s, runS S xs 0 s = runS S (xs.drop (i + 1)) (i + 1) (runS S (xs.take i) 0 s) := fun s => by
    conv => lhs; rw [hsplit]
    rw [runS_append, hlen, Nat.zero_add, runS, hi]
    simp
  have e4 : ∀ s, runS S' (xs.drop (i + 1)) (i + 1) s = runS S (xs.drop (i + 1)) (i + 1) s := fun s => runS_all _ _ _ fun j hj => by
    simp [hS']; omega
  rw [e1, e2, e3, e4]
  obtain ⟨s1, hs1⟩ : ∃ s1, s1 = runS S (xs.take i) 0 s := ⟨_, rfl⟩
  rw [← hs1]
  refine ⟨fun t => ?_, fun k => ?_⟩
  · by_cases hd : x.dst = some t
    · have a1 : lget (runS S (xs.drop (i + 1)) (i + 1) (x.app s1)).1 t = lget (x.app s1).1 t := by
        rw [runS_slot (S' := fun _ => false) _ _ _ (x.app s1) rfl rfl fun j y hj hy => ?_, runS_none _ _ _ fun _ _ => rfl]
        cases hS : S (i + 1 + j) with
        | false => rfl
        | true => exact (h1 _ y (hpost j y hj) (by omega) hS t hd hy).elim
      rw [a1]
      simp only [Ent.app, lset?_get, runS_len, hd, true_and]
      by_cases hl : t < s1.1.length
      · rw [if_pos hl, if_pos hl]
      · rw [if_neg hl, if_neg hl, lget_eq, lget_eq, List.getD, List.getD, List.getElem?_eq_none (by omega), List.getElem?_eq_none (by rw [runS_len]; omega)]
    · have a2 : ∀ s : PS, lget (x.app s).1 t = lget s.1 t := fun s => by simp only [Ent.app, lset?_get]; rw [if_neg (fun q => hd q.1)]
      rw [a2]
      exact runS_slot _ _ _ _ (by simp [Ent.app, lset?_length]) (a2 _) fun _ _ _ _ => rfl
  · by_cases hk : k ∈ ukeys x.upd
    · have a1 : mget (runS S (xs.drop (i + 1)) (i + 1) (x.app s1)).2 k = mget (x.app s1).2 k := by
        rw [runS_key (S' := fun _ => false) _ _ _ (x.app s1) rfl fun j y hj hy => ?_, runS_none _ _ _ fun _ _ => rfl]
        cases hS : S (i + 1 + j) with
        | false => rfl
        | true => exact (h2 _ y (hpost j y hj) (by omega) hS k hk hy).elim
      rw [a1]
      exact mapply_congr fun h => (h hk).elim
    · have a2 : ∀ s : PS, mget (x.app s).2 k = mget s.2 k := fun s => mapply_not hk
      rw [a2]
      exact runS_key _ _ _ _ (a2 _) fun _ _ _ _ => rfl
end
end Go.Am
/- The plan of a region: what each operation does, in the text's order. -/
namespace Go.Am
set_option linter.all false
set_option linter.deprecated false
section
variable {P : Program} {w w' w0 : World} {I I' I0 : Nat → Prop} {σ σ' σ0 : Sig} {M M' M0 : MS} {T : TT} {G : Ctx}

def RF (res : List (Nat × Bool)) (env : List AV) : Prop := ∀ s b, rget res s = some b → ∃ f, lget env s = .bool f ∧ f () = b
def GYes (all : List Oper) (o : Oper) (env : List AV) : Prop := ∀ j want, o.guard = some (j, want) → ∃ d f, gslot all j = some d ∧ lget env d = .bool f ∧ f () = want
def GNo (all : List Oper) (o : Oper) (env : List AV) : Prop := ∃ j want d, o.guard = some (j, want) ∧ gslot all j = some d ∧ (lget env d = .udf ∨ ∃ f, lget env d = .bool f ∧ f () ≠ want)
def Step (T : TT) (G : Ctx) (all : List Oper) (key : Nat) (o : Oper) (x : Ent) (s : PS) : Prop :=
  x.dst = o.dst ∧
    ((∃ res e, RF res s.1 ∧ GYes all o s.1 ∧ aop T G s.1 res s.2 key o.op = some e ∧ (∀ p ∈ e.vc, p ()) ∧ x.val = e.val ∧ x.rd = e.rd ∧ x.upd = e.upd) ∨
     (GNo all o s.1 ∧ x.val = .udf ∧ x.rd = [] ∧ x.upd = []))
theorem RF.put {res : List (Nat × Bool)} {env : List AV} (h : RF res env) (d : Option Nat) (v : AV) : RF (rdel res d) (lset? env d v) := by
  intro s b hb
  rw [rget_rdel] at hb
  split at hb
  · cases hb
  · rename_i hd
    obtain ⟨f, h1, h2⟩ := h s b hb
    exact ⟨f, by rw [lset?_get, if_neg (fun q => hd q.1)]; exact h1, h2⟩
theorem RF.cons {res : List (Nat × Bool)} {env : List AV} (h : RF res env) {d : Nat} {f : Unit → Bool} {b : Bool} (h1 : lget env d = .bool f) (h2 : f () = b) : RF ((d, b) :: res) env := by
  intro s b' hb
  simp only [rget] at hb
  split at hb
  · rename_i hd
    have hd := Nat.eq_of_beq_eq_true hd
    subst hd
    cases hb
    exact ⟨f, h1, h2⟩
  · exact h s b' hb
def logX : List Ent → Nat → List (Nat × List Nat × List Nat) → List (Nat × List Nat × List Nat)
  | [], _, l => l
  | x :: xs, i, l => logX xs (i + 1) (logOf i ⟨[], .un, x.rd, x.upd⟩ l)
theorem wops_plan {all : List Oper} {base : Nat} {K : RS → Prop} : ∀ (os : List Oper) (i : Nat) (r : RS), wops T G all base os i r K → RF r.res r.env →
    ∃ xs r', K r' ∧ xs.length = os.length ∧ (r'.env, r'.M) = runS (fun _ => true) xs i (r.env, r.M) ∧ r'.log = logX xs i r.log ∧
      ∀ j o x, os[j]? = some o → xs[j]? = some x → Step T G all (base + 8 * (i + j)) o x (runS (fun _ => true) (xs.take j) i (r.env, r.M))
  | [], i, r, h, _ => ⟨[], r, h, rfl, rfl, rfl, fun j o x h => by simp at h⟩
  | o :: os, i, r, h, hr => by
    have mk : ∀ (x : Ent) (r1 : RS), Step T G all (base + 8 * i) o x (r.env, r.M) → (r1.env, r1.M) = x.app (r.env, r.M) → r1.log = logOf i ⟨[], .un, x.rd, x.upd⟩ r.log → RF r1.res r1.env → wops T G all base os (i + 1) r1 K →
        ∃ xs r', K r' ∧ xs.length = (o :: os).length ∧ (r'.env, r'.M) = runS (fun _ => true) xs i (r.env, r.M) ∧ r'.log = logX xs i r.log ∧
      ∀ j o' x, (o :: os)[j]? = some o' → xs[j]? = some x → Step T G all (base + 8 * (i + j)) o' x (runS (fun _ => true) (xs.take j) i (r.env, r.M)) := by
      intro x r1 hst h1 h2 h3 h4
      obtain ⟨xs, r', g1, g2, g3, g4, g5⟩ := wops_plan os (i + 1) r1 h4 h3
      refine ⟨x :: xs, r', g1, by simp [g2], ?_, ?_, fun j o' x' hj hx => ?_⟩
      · rw [g3, h1]; rfl
      · rw [g4, h2]; rfl
      · cases j with
        | zero =>
          simp only [List.getElem?_cons_zero, Option.some.injEq] at hj hx
          subst hj hx
          exact hst
        | succ j =>
          simp only [List.getElem?_cons_succ] at hj hx
          have := g5 j o' x' hj hx
          rw [h1] at this
          rw [show i + (j + 1) = i + 1 + j by omega]
          exact this
    have run : ∀ (r0 : RS), r0.env = r.env → r0.M = r.M → r0.log = r.log → RF r0.res r.env → GYes all o r.env → wop T G i base o r0 (fun r => wops T G all base os (i + 1) r K) → 
        ∃ xs r', K r' ∧ xs.length = (o :: os).length ∧ (r'.env, r'.M) = runS (fun _ => true) xs i (r.env, r.M) ∧ r'.log = logX xs i r.log ∧
      ∀ j o' x, (o :: os)[j]? = some o' → xs[j]? = some x → Step T G all (base + 8 * (i + j)) o' x (runS (fun _ => true) (xs.take j) i (r.env, r.M)) := by
      intro r0 e1 e2 e3 hr0 hg hw
      unfold wop at hw
      split at hw
      · exact hw.elim
      · rename_i e he
        obtain ⟨hvc, hw⟩ := vcs_iff _ _ hw
        rw [e1, e2] at he
        refine mk ⟨o.dst, e.val, e.rd, e.upd⟩ _ ⟨rfl, .inl ⟨r0.res, e, hr0, hg, he, hvc, rfl, rfl, rfl⟩⟩ ?_ ?_ ?_ hw
        · simp only [Ent.app, e1, e2]
        · simp only [e3]; rfl
        · simp only [e1]; exact hr0.put _ _
    have skip : ∀ (r0 : RS), r0.env = r.env → r0.M = r.M → r0.log = r.log → RF r0.res r.env → GNo all o r.env → wops T G all base os (i + 1) (skipR o r0) K → 
        ∃ xs r', K r' ∧ xs.length = (o :: os).length ∧ (r'.env, r'.M) = runS (fun _ => true) xs i (r.env, r.M) ∧ r'.log = logX xs i r.log ∧
      ∀ j o' x, (o :: os)[j]? = some o' → xs[j]? = some x → Step T G all (base + 8 * (i + j)) o' x (runS (fun _ => true) (xs.take j) i (r.env, r.M)) := by
      intro r0 e1 e2 e3 hr0 hg hw
      refine mk ⟨o.dst, .udf, [], []⟩ _ ⟨rfl, .inr ⟨hg, rfl, rfl, rfl⟩⟩ ?_ ?_ ?_ hw
      · simp only [skipR, Ent.app, e1, e2, mapply]
      · simp only [skipR, e3]; rfl
      · simp only [skipR, e1]; exact hr0.put _ _
    unfold wops at h
    split at h
    · rename_i hg
      exact run r rfl rfl rfl hr (fun j want q => by rw [hg] at q; cases q) h
    · rename_i j want hg
      split at h
      · exact h.elim
      · rename_i d hd
        have yes : ∀ f, lget r.env d = .bool f → f () = want → GYes all o r.env := fun f h1 h2 j' want' q => by
          rw [hg] at q
          cases q
          exact ⟨d, f, hd, h1, h2⟩
        split at h
        · rename_i b hb
          obtain ⟨f, h1, h2⟩ := hr d b hb
          split at h
          · rename_i hbb
            rw [beqB_iff, beq_iff_eq] at hbb
            exact run r rfl rfl rfl hr (yes f h1 (by rw [h2, hbb])) h
          · rename_i hbb
            rw [beqB_iff] at hbb
            exact skip r rfl rfl rfl hr ⟨j, want, d, hg, hd, .inr ⟨f, h1, by rw [h2]; simpa using hbb⟩⟩ h
        · split at h
          · rename_i f hf
            split at h
            · cases hfv : f () with
              | true => exact run ⟨r.env, r.M, (d, true) :: r.res, r.log⟩ rfl rfl rfl (hr.cons hf hfv) (yes f hf hfv) (h.t hfv)
              | false => exact skip ⟨r.env, r.M, (d, false) :: r.res, r.log⟩ rfl rfl rfl (hr.cons hf hfv) ⟨j, true, d, hg, hd, .inr ⟨f, hf, by simp [hfv]⟩⟩ (h.f hfv)
            · cases hfv : f () with
              | true => exact skip ⟨r.env, r.M, (d, true) :: r.res, r.log⟩ rfl rfl rfl (hr.cons hf hfv) ⟨j, false, d, hg, hd, .inr ⟨f, hf, by simp [hfv]⟩⟩ (h.t hfv)
              | false => exact run ⟨r.env, r.M, (d, false) :: r.res, r.log⟩ rfl rfl rfl (hr.cons hf hfv) (yes f hf hfv) (h.f hfv)
          · rename_i hf
            exact skip r rfl rfl rfl hr ⟨j, want, d, hg, hd, .inl hf⟩ h
          · exact h.elim

/-! the slots that an operation looks at -/
def tslot : Operand → Option Nat
  | .tmp t => some t
  | _ => none
def rslots (all : List Oper) (o : Oper) : List Nat := (opnds o.op).filterMap tslot ++ (match o.guard with | some (j, _) => (gslot all j).toList | none => [])
theorem rget_filter (l : List Nat) (t : Nat) : ∀ (res : List (Nat × Bool)), rget (res.filter fun p => nmem l p.1) t = if nmem l t = true then rget res t else none
  | [] => by simp [rget]
  | (k, b) :: res => by
    simp only [List.filter]
    cases hk : nmem l k with
    | true =>
      simp only [rget]
      split
      · rename_i he
        have he := Nat.eq_of_beq_eq_true he
        subst he
        rw [if_pos hk]
      · rw [rget_filter l t res]
    | false =>
      simp only
      rw [rget_filter l t res]
      split
      · rename_i ht
        simp only [rget]
        split
        · rename_i he
          have he := Nat.eq_of_beq_eq_true he
          subst he
          rw [hk] at ht
          cases ht
        · rfl
      · rfl
theorem Step.move {all : List Oper} {key : Nat} {o : Oper} {x : Ent} {s s' : PS} (h : Step T G all key o x s) (h1 : ∀ t ∈ rslots all o, lget s'.1 t = lget s.1 t) (h2 : ∀ k ∈ x.rd, mget s'.2 k = mget s.2 k) :
    Step T G all key o x s' := by
  have hg : ∀ j want d, o.guard = some (j, want) → gslot all j = some d → lget s'.1 d = lget s.1 d := fun j want d q1 q2 => h1 d (by
    simp only [rslots, List.mem_append]
    exact .inr (by simp [q1, q2]))
  have hop : ∀ x ∈ opnds o.op, opv s'.1 x = opv s.1 x := fun y hy => by
    cases y with
    | tmp t =>
      simp only [opv]
      exact h1 t (by simp only [rslots, List.mem_append, List.mem_filterMap]; exact .inl ⟨.tmp t, hy, rfl⟩)
    | const v => rfl
    | func f => rfl
    | global g => rfl
  obtain ⟨hd, h⟩ := h
  refine ⟨hd, ?_⟩
  rcases h with ⟨res, e, hr, hy, ha, hvc, e1, e2, e3⟩ | ⟨⟨j, want, d, q1, q2, q3⟩, r⟩
  · refine .inl ⟨res.filter (fun p => nmem (rslots all o) p.1), e, ?_, ?_, ?_, hvc, e1, e2, e3⟩
    · intro t b hb
      rw [rget_filter] at hb
      split at hb
      · rename_i ht
        rw [h1 t ((nmem_iff _ _).1 ht)]
        exact hr t b hb
      · cases hb
    · intro j want q
      obtain ⟨d, f, q1, q2, q3⟩ := hy j want q
      exact ⟨d, f, q1, by rw [hg j want d q q1]; exact q2, q3⟩
    · rw [aop_env (env := s.1) (res := res) hop fun y hy => ?_]
      · exact aop_loc ha (by rw [e2] at h2; exact h2)
      · cases y with
        | tmp t =>
          simp only [resOf]
          rw [rget_filter, if_pos]
          rw [nmem_iff]
          simp only [rslots, List.mem_append, List.mem_filterMap]
          exact .inl ⟨.tmp t, hy, rfl⟩
        | const v => cases v <;> rfl
        | func f => rfl
        | global g => rfl
  · exact .inr ⟨⟨j, want, d, q1, q2, by rw [hg j want d q1 q2]; exact q3⟩, r⟩
/-! the orders -/
def edges (o : Oper) : List Nat := (o.after.toList.filter (fun e => Region.binds .any e)).map (·.on)
def Closed (ops : List Oper) (S : Nat → Bool) : Prop := ∀ i o, ops[i]? = some o → S i = true → ∀ e ∈ edges o, S e = true
theorem ancGo_closed {ops : List Oper} {S : Nat → Bool} {j : Nat} (hc : Closed ops S) (hj : ∀ o, ops[j]? = some o → ∀ e ∈ edges o, S e = true) : ∀ (i : Nat) (acc : List Nat), (∀ k ∈ acc, k = j ∨ S k = true) → ∀ k ∈ ancGo ops i acc, k = j ∨ S k = true
  | 0, _, h, k, hk => h k hk
  | i + 1, acc, h, k, hk => by
    unfold ancGo at hk
    split at hk
    · exact ancGo_closed hc hj i acc h k hk
    · rename_i hm
      refine ancGo_closed hc hj i _ (fun k hk => ?_) k hk
      rcases List.mem_append.1 hk with hk | hk
      · exact h k hk
      · split at hk
        · rename_i o ho
          rcases h i ((nmem_iff _ _).1 hm) with rfl | hS
          · exact .inr (hj o ho k hk)
          · exact .inr (hc i o ho hS k hk)
        · cases hk
theorem anc_closed {ops : List Oper} {S : Nat → Bool} {j : Nat} (hc : Closed ops S) (hj : ∀ o, ops[j]? = some o → ∀ e ∈ edges o, S e = true) {k : Nat} (hk : nmem (anc ops j) k = true) : k = j ∨ S k = true :=
  ancGo_closed hc hj (j + 1) [j] (fun k hk => .inl (List.mem_singleton.1 hk)) k ((nmem_iff _ _).1 hk)
def edgesOk (ops : List Oper) : Bool := (List.range ops.length).all fun i => match ops[i]? with | some o => (edges o).all fun e => Nat.blt e i | none => true
theorem edgesOk_iff {ops : List Oper} (h : edgesOk ops = true) {i : Nat} {o : Oper} (ho : ops[i]? = some o) : ∀ e ∈ edges o, e < i := by
  intro e he
  have hi : i < ops.length := (List.getElem?_eq_some_iff.1 ho).1
  have := List.all_eq_true.1 h i (List.mem_range.2 hi)
  rw [ho] at this
  have := List.all_eq_true.1 this e he
  rw [Nat.blt] at this
  exact Nat.le_of_ble_eq_true this
def clash (all : List Oper) (x y : Oper) : Bool :=
  (match x.dst with | some d => nmem (rslots all y) d || (match y.dst with | some d' => Nat.beq d d' | none => false) | none => false) ||
  (match y.dst with | some d => nmem (rslots all x) d | none => false)
def slotsOk (ops : List Oper) : Bool := (List.range ops.length).all fun k => match ops[k]? with
  | some y => (List.range k).all fun j => match ops[j]? with | some x => !clash ops x y || nmem (anc ops k) j | none => true
  | none => true
theorem slotsOk_iff {ops : List Oper} (h : slotsOk ops = true) {j k : Nat} {x y : Oper} (hx : ops[j]? = some x) (hy : ops[k]? = some y) (hjk : j < k) (hc : clash ops x y = true) : nmem (anc ops k) j = true := by
  have hk : k < ops.length := (List.getElem?_eq_some_iff.1 hy).1
  have := List.all_eq_true.1 h k (List.mem_range.2 hk)
  rw [hy] at this
  have := List.all_eq_true.1 this j (List.mem_range.2 hjk)
  rw [hx] at this
  simpa [hc] using this
def apartL (x y : Nat × List Nat × List Nat) : Prop := (∀ k ∈ x.2.2, k ∉ y.2.1 ∧ k ∉ y.2.2) ∧ ∀ k ∈ y.2.2, k ∉ x.2.1
theorem okPair_iff {ops : List Oper} {x y : Nat × List Nat × List Nat} (h : okPair ops x y = true) : apartL x y ∨ nmem (anc ops y.1) x.1 = true ∨ nmem (anc ops x.1) y.1 = true := by
  simp only [okPair, Bool.or_eq_true, Bool.and_eq_true] at h
  rcases h with (⟨⟨h1, h2⟩, h3⟩ | h) | h
  · exact .inl ⟨fun k hk => ⟨disj_iff h1 k hk, disj_iff h2 k hk⟩, fun k hk => disj_iff h3 k hk⟩
  · exact .inr (.inl h)
  · exact .inr (.inr h)
theorem logX_suffix {ops : List Oper} : ∀ (xs : List Ent) (i : Nat) (l : List (Nat × List Nat × List Nat)), okLog ops (logX xs i l) = true → okLog ops l = true ∧
    ∀ j x, xs[j]? = some x → ∀ p ∈ l, apartL (i + j, x.rd, ukeys x.upd) p ∨ nmem (anc ops p.1) (i + j) = true ∨ nmem (anc ops (i + j)) p.1 = true
  | [], _, l, h => ⟨h, fun j x h => by simp at h⟩
  | x :: xs, i, l, h => by
    obtain ⟨h1, h2⟩ := logX_suffix xs (i + 1) _ h
    have hl : ∀ p ∈ l, p ∈ logOf i ⟨[], .un, x.rd, x.upd⟩ l := fun p hp => by
      unfold logOf
      split
      · exact hp
      · exact List.mem_cons_of_mem _ hp
    have h3 : okLog ops l = true ∧ ∀ p ∈ l, apartL (i, x.rd, ukeys x.upd) p ∨ nmem (anc ops p.1) i = true ∨ nmem (anc ops i) p.1 = true := by
      unfold logOf at h1
      split at h1
      · rename_i e1 e2
        simp only at e1 e2
        exact ⟨h1, fun p _ => .inl ⟨by simp [e2, ukeys], by simp [e1]⟩⟩
      · simp only [okLog, Bool.and_eq_true] at h1
        exact ⟨h1.2, fun p hp => okPair_iff (List.all_eq_true.1 h1.1 p hp)⟩
    refine ⟨h3.1, fun j y hj p hp => ?_⟩
    cases j with
    | zero =>
      simp only [List.getElem?_cons_zero, Option.some.injEq] at hj
      subst hj
      exact h3.2 p hp
    | succ j =>
      have := h2 j y (by simpa using hj) p (hl p hp)
      rwa [show i + 1 + j = i + (j + 1) by omega] at this
theorem logX_pair {ops : List Oper} : ∀ (xs : List Ent) (i : Nat) (l : List (Nat × List Nat × List Nat)), okLog ops (logX xs i l) = true → ∀ j k x y, xs[j]? = some x → xs[k]? = some y → j < k →
    apartL (i + k, y.rd, ukeys y.upd) (i + j, x.rd, ukeys x.upd) ∨ nmem (anc ops (i + j)) (i + k) = true ∨ nmem (anc ops (i + k)) (i + j) = true
  | [], _, _, _, j, _, _, _, hj, _, _ => by simp at hj
  | x0 :: xs, i, l, h, j, k, x, y, hj, hk, hjk => by
    cases k with
    | zero => omega
    | succ k =>
      simp only [List.getElem?_cons_succ] at hk
      cases j with
      | succ j =>
        simp only [List.getElem?_cons_succ] at hj
        have := logX_pair xs (i + 1) _ h j k x y hj hk (by omega)
        rwa [show i + 1 + j = i + (j + 1) by omega, show i + 1 + k = i + (k + 1) by omega] at this
      | zero =>
        simp only [List.getElem?_cons_zero, Option.some.injEq] at hj
        subst hj
        obtain ⟨_, h2⟩ := logX_suffix xs (i + 1) _ h
        by_cases he : x0.rd = [] ∧ x0.upd = []
        · exact .inl ⟨by simp [he.1, he.2, ukeys], by simp [he.2, ukeys]⟩
        · have hm : (i, x0.rd, ukeys x0.upd) ∈ logOf i ⟨[], .un, x0.rd, x0.upd⟩ l := by
            unfold logOf
            split
            · rename_i e1 e2
              exact (he ⟨e1, e2⟩).elim
            · exact List.mem_cons_self
          have := h2 k y hk _ hm
          rwa [show i + 1 + k = i + (k + 1) by omega] at this
end
end Go.Am
/- A region that draws its order: on the machine. -/
namespace Go.Am
set_option linter.all false
set_option linter.deprecated false
section
variable {ds : List Deferred} {P : Program} {a : Act} {w w' w0 : World} {I I' I0 : Nat → Prop} {σ σ' σ0 : Sig} {M M' M0 : MS} {T : TT} {G : Ctx}

/-- where the machine stands, but for the free numbers -/
structure Sd (ds : List Deferred) (w0 : World) (I0 : Nat → Prop) (σ0 : Sig) (M0 : MS) (s : PS) (a : Act) (w : World) (I : Nat → Prop) (σ : Sig) : Prop where
  envr : EnvR w I σ s.1 a.tmps
  len : s.1.length ≤ a.tmps.size
  ok : Ok w I σ s.2
  ext : Ext w0 I0 σ0 M0 w I σ s.2
  def0 : a.defers = ds
theorem Owned.congr {N : MS} (h : ∀ k, mget N k = mget M k) {b : Nat} : Owned σ N b ↔ Owned σ M b :=
  ⟨fun ⟨k, o, p, q, r⟩ => ⟨k, o, p, by rw [← h]; exact q, r⟩, fun ⟨k, o, p, q, r⟩ => ⟨k, o, p, by rw [h]; exact q, r⟩⟩
theorem Ext.congr {N : MS} (h : ∀ k, mget N k = mget M k) (e : Ext w0 I0 σ0 M0 w I σ M) : Ext w0 I0 σ0 M0 w I σ N :=
  ⟨e.os, e.tape, e.output, e.size, e.blk, e.mono, e.fresh, fun b hb => e.own b ((Owned.congr h).1 hb), e.sig⟩
theorem Sd.congr {s s' : PS} (h : Sd ds w0 I0 σ0 M0 s a w I σ) (hl : s'.1.length = s.1.length) (h1 : ∀ t, lget s'.1 t = lget s.1 t) (h2 : ∀ k, mget s'.2 k = mget s.2 k) : Sd ds w0 I0 σ0 M0 s' a w I σ :=
  ⟨fun t => by rw [h1]; exact h.envr t, by rw [hl]; exact h.len, h.ok.sub fun k x hk => by rw [← h2]; exact hk, h.ext.congr h2, h.def0⟩
theorem Sd.step {x : Ent} {s : PS} {key : Nat} {v : Value} (h : Sd ds w0 I0 σ0 M0 s a w I σ) (hp : Post w I σ s.2 key x.val (mapply s.2 x.upd) v w') :
    ∃ I' σ', Sd ds w0 I0 σ0 M0 (x.app s) (a.put x.dst v) w' I' σ' ∧ ∀ k, σ' k = σ k ∨ (key ≤ k ∧ k < key + 8) := by
  obtain ⟨I', σ', h1, h2, h3, h4⟩ := hp
  have K := h3.keep h.ok
  refine ⟨I', σ', ⟨EnvR.put (fun t => VR.keep K _ _ (h.envr t)) h.len h1, ?_, h2, h.ext.trans h3, by rw [put_defers]; exact h.def0⟩, h4⟩
  show (lset? _ _ _).length ≤ _
  rw [lset?_length, put_size]; exact h.len
theorem Sd.skip {x : Ent} {s : PS} (h : Sd ds w0 I0 σ0 M0 s a w I σ) (hv : x.val = .udf) (hu : x.upd = []) : Sd ds w0 I0 σ0 M0 (x.app s) (a.put x.dst undef) w I σ := by
  refine ⟨EnvR.put h.envr h.len (by rw [hv]; simp only [VR]), ?_, by simp only [Ent.app, hu, mapply]; exact h.ok, by simp only [Ent.app, hu, mapply]; exact h.ext, by rw [put_defers]; exact h.def0⟩
  show (lset? _ _ _).length ≤ _
  rw [lset?_length, put_size]; exact h.len
/-- one operation, whenever its turn comes -/
theorem Step.run (hT : ∀ t i, T t = some i → TIok P t i) (hG : ∀ f C, G f = some C → CSound P f C) {all : List Oper} {Q : Exit → Act → World → Prop} {K : Act → World → Prop} {i key : Nat} {o : Oper} {x : Ent} {s : PS}
    (ho : all[i]? = some o) (h : Step T G all key o x s) (hs : Sd ds w0 I0 σ0 M0 s a w I σ) (hf : ∀ k, key ≤ k → k < key + 8 → σ k = none)
    (hK : ∀ a' w' I' σ', Sd ds w0 I0 σ0 M0 (x.app s) a' w' I' σ' → a'.tmps.size = a.tmps.size → (∀ k, σ' k = σ k ∨ (key ≤ k ∧ k < key + 8)) → K a' w') : wpOp P all.toArray Q i K a w := by
  have gs : ∀ j want d, o.guard = some (j, want) → gslot all j = some d → Region.wanted o (yielded all.toArray a.tmps) = (yielded all.toArray a.tmps j == some want) := fun j want d q _ => by simp [Region.wanted, q]
  unfold wpOp
  simp only [List.getElem?_toArray, ho]
  obtain ⟨hd, ⟨res, e, hr, hg, ha, hvc, e1, e2, e3⟩ | ⟨⟨j, want, d, q1, q2, q3⟩, e1, e2, e3⟩⟩ := h
  · have hw : Region.wanted o (yielded all.toArray a.tmps) = true := by
      cases hgu : o.guard with
      | none => simp [Region.wanted, hgu]
      | some p =>
        obtain ⟨j, want⟩ := p
        obtain ⟨d, f, q1, q2, q3⟩ := hg j want hgu
        rw [gs j want d hgu q1]
        have hv := hs.envr d
        rw [q2] at hv
        simp only [VR] at hv
        rw [yielded_of q1 hv, q3]
        simp
    rw [if_pos hw]
    refine .inl (aop_ok hT hG hs.ok hs.envr (fun t b hb => ?_) hf ha hvc K Q fun v w' hp => ?_)
    · obtain ⟨f, r1, r2⟩ := hr t b hb
      have hv := hs.envr t
      rw [r1] at hv
      simp only [VR] at hv
      rw [hv, r2]
    · rw [← e1, ← e3] at hp
      obtain ⟨I', σ', g1, g2⟩ := hs.step hp
      rw [← hd]
      exact hK _ _ I' σ' g1 (put_size _ _ _) g2
  · have hw : Region.wanted o (yielded all.toArray a.tmps) = false := by
      rw [gs j want d q1 q2]
      have hv := hs.envr d
      rcases q3 with q3 | ⟨f, q3, q4⟩
      · rw [q3] at hv
        simp only [VR] at hv
        rw [yielded_undef q2 hv]
        rfl
      · rw [q3] at hv
        simp only [VR] at hv
        rw [yielded_of q2 hv]
        simpa using q4
    rw [if_neg (by rw [hw]; simp), ← hd]
    exact hK _ _ I σ (hs.skip e1 e3) (put_size _ _ _) fun _ => .inl rfl

theorem countP_lt {p q : Nat → Bool} : ∀ {l : List Nat}, (∀ x ∈ l, q x = true → p x = true) → (∃ x ∈ l, p x = true ∧ q x = false) → (l.filter q).length < (l.filter p).length
  | [], _, ⟨x, hx, _⟩ => by cases hx
  | y :: l, h, ⟨x, hx, h1, h2⟩ => by
    have hle : ∀ {l : List Nat}, (∀ x ∈ l, q x = true → p x = true) → (l.filter q).length ≤ (l.filter p).length := by
      intro l
      induction l with
      | nil => simp
      | cons z l ih =>
        intro h
        have := ih fun x hx => h x (List.mem_cons_of_mem _ hx)
        have hz := h z List.mem_cons_self
        simp only [List.filter]
        cases hq : q z <;> cases hp : p z <;> simp_all <;> omega
    have hl := fun x hx => h x (List.mem_cons_of_mem _ hx)
    simp only [List.filter]
    rcases List.mem_cons.1 hx with rfl | hx
    · rw [h1, h2]
      have := hle hl
      simp only [List.length_cons]
      omega
    · have := countP_lt hl ⟨x, hx, h1, h2⟩
      have hy := h y List.mem_cons_self
      cases hq : q y <;> cases hp : p y <;> simp_all <;> omega
def dn (listed : Array Bool) (i : Nat) : Bool := listed.getD i false
theorem dn_set {listed : Array Bool} {i : Nat} (hi : i < listed.size) (j : Nat) : dn (listed.setIfInBounds i true) j = (dn listed j || decide (j = i)) := by
  simp only [dn, Array.getD_eq_getD_getElem?]
  by_cases h : i = j
  · subst h
    simp [hi]
  · rw [Array.getElem?_setIfInBounds_ne h]
    have h' : ¬ j = i := fun e => h e.symm
    simp [h']
theorem ready_iff {ops : List Oper} {listed : Array Bool} (hsz : listed.size = ops.length) {i : Nat} : i ∈ Region.ready .any ops.toArray listed ↔ ∃ o, ops[i]? = some o ∧ dn listed i = false ∧ ∀ e ∈ edges o, dn listed e = true := by
  simp only [Region.ready, List.mem_filter, List.mem_range, List.size_toArray, Bool.and_eq_true, Bool.not_eq_true', List.getElem?_toArray]
  constructor
  · rintro ⟨hi, h1, h2⟩
    obtain ⟨o, ho⟩ : ∃ o, ops[i]? = some o := ⟨ops[i], by simp [hi]⟩
    rw [ho] at h2
    simp only [Option.map_some, Option.getD_some, Array.all_eq_true'] at h2
    refine ⟨o, ho, ?_, fun e he => ?_⟩
    · simp only [dn, Array.getD_eq_getD_getElem?] at h1 ⊢
      have : i < listed.size := by omega
      simp [this] at h1 ⊢
      exact h1
    · simp only [edges, List.mem_map, List.mem_filter, Array.mem_toList_iff] at he
      obtain ⟨ed, ⟨hm, hb⟩, rfl⟩ := he
      have := h2 ed hm
      simpa [hb, dn] using this
  · rintro ⟨o, ho, h1, h2⟩
    have hi : i < ops.length := (List.getElem?_eq_some_iff.1 ho).1
    refine ⟨hi, ?_, ?_⟩
    · simp only [dn, Array.getD_eq_getD_getElem?] at h1 ⊢
      have : i < listed.size := by omega
      simp [this] at h1 ⊢
      exact h1
    · rw [ho]
      simp only [Option.map_some, Option.getD_some, Array.all_eq_true']
      intro ed hm
      cases hb : Region.binds .any ed with
      | false => rfl
      | true =>
        have := h2 ed.on (by simp only [edges, List.mem_map, List.mem_filter, Array.mem_toList_iff]; exact ⟨ed, ⟨hm, hb⟩, rfl⟩)
        simpa [dn] using this
theorem clash_of {all : List Oper} {x y : Oper} {d : Nat} (h : x.dst = some d) (h' : d ∈ rslots all y) : clash all x y = true := by
  simp only [clash, h]
  rw [(nmem_iff _ _).2 h']
  rfl
theorem clash_of' {all : List Oper} {x y : Oper} {d : Nat} (h : y.dst = some d) (h' : d ∈ rslots all x) : clash all x y = true := by
  simp only [clash, h]
  rw [(nmem_iff _ _).2 h']
  simp
theorem clash_dst {all : List Oper} {x y : Oper} {d : Nat} (h : x.dst = some d) (h' : y.dst = some d) : clash all x y = true := by
  simp only [clash, h, h', Nat.beq_refl]
  simp

theorem wpAny_plan (hT : ∀ t i, T t = some i → TIok P t i) (hG : ∀ f C, G f = some C → CSound P f C) {ops : List Oper} {base : Nat} {Q : Exit → Act → World → Prop} {xs : List Ent} {s0 : PS}
    (he : edgesOk ops = true) (hsl : slotsOk ops = true) (hlog : okLog ops (logX xs 0 []) = true) (hlen : xs.length = ops.length)
    (hplan : ∀ j o x, ops[j]? = some o → xs[j]? = some x → Step T G ops (base + 8 * j) o x (runS (fun _ => true) (xs.take j) 0 s0))
    (hQ : ∀ a' w' I' σ', Sd ds w0 I0 σ0 M0 (runS (fun _ => true) xs 0 s0) a' w' I' σ' → (∀ k, base + 8 * ops.length ≤ k → σ' k = none) → Q .normal a' w') :
    ∀ (fuel : Nat) (listed : Array Bool) (a : Act) (w : World) (I : Nat → Prop) (σ : Sig), listed.size = ops.length → ((List.range ops.length).filter fun i => !dn listed i).length ≤ fuel →
      Closed ops (dn listed) → Sd ds w0 I0 σ0 M0 (runS (dn listed) xs 0 s0) a w I σ → (∀ k, base ≤ k → (∀ i, i < ops.length → dn listed i = true → ¬ (base + 8 * i ≤ k ∧ k < base + 8 * i + 8)) → σ k = none) →
      wpAny P .any ops.toArray Q fuel listed a w := by
  have fin : ∀ (listed : Array Bool) (a : Act) (w : World) (I : Nat → Prop) (σ : Sig), listed.size = ops.length → 
      Sd ds w0 I0 σ0 M0 (runS (dn listed) xs 0 s0) a w I σ → (∀ k, base ≤ k → (∀ i, i < ops.length → dn listed i = true → ¬ (base + 8 * i ≤ k ∧ k < base + 8 * i + 8)) → σ k = none) → 
      (∀ i, i < ops.length → dn listed i = true) → Q .normal a w := by
    intro listed a w I σ hsz hs hf hall
    rw [runS_all (S' := fun _ => true) xs 0 s0 (fun j hj => by rw [Nat.zero_add]; exact hall j (by omega))] at hs
    exact hQ a w I σ hs fun k hk => hf k (by omega) fun i hi _ => by omega
  have allOf : ∀ (listed : Array Bool), listed.size = ops.length → Region.ready .any ops.toArray listed = [] → ∀ i, i < ops.length → dn listed i = true := by
    intro listed hsz hr i
    induction i using Nat.strongRecOn with
    | _ i ih =>
      intro hi
      cases hd : dn listed i with
      | true => rfl
      | false =>
        have ho : ops[i]? = some ops[i] := by simp [hi]
        have : i ∈ Region.ready .any ops.toArray listed := (ready_iff hsz).2 ⟨_, ho, hd, fun e hm => ih e (edgesOk_iff he ho e hm) (by have := edgesOk_iff he ho e hm; omega)⟩
        rw [hr] at this
        cases this
  intro fuel
  induction fuel with
  | zero =>
    intro listed a w I σ hsz hcnt hcl hs hf
    have hall : ∀ i, i < ops.length → dn listed i = true := by
      intro i hi
      cases hd : dn listed i with
      | true => rfl
      | false =>
        have hm : i ∈ (List.range ops.length).filter fun i => !dn listed i := by simp [hi, hd]
        have := List.length_pos_of_mem hm
        omega
    refine ⟨?_, fin listed a w I σ hsz hs hf hall⟩
    cases hr : Region.ready .any ops.toArray listed with
    | nil => rfl
    | cons i l =>
      have : i ∈ Region.ready .any ops.toArray listed := by rw [hr]; exact List.mem_cons_self
      obtain ⟨o, ho, h1, _⟩ := (ready_iff hsz).1 this
      rw [hall i (List.getElem?_eq_some_iff.1 ho).1] at h1
      cases h1
  | succ fuel ih =>
    intro listed a w I σ hsz hcnt hcl hs hf
    refine ⟨fun hr => fin listed a w I σ hsz hs hf (allOf listed hsz hr), fun i hi => ?_⟩
    obtain ⟨o, ho, hd, hpre⟩ := (ready_iff hsz).1 hi
    have hil : i < ops.length := (List.getElem?_eq_some_iff.1 ho).1
    obtain ⟨x, hx⟩ : ∃ x, xs[i]? = some x := ⟨xs[i], by simp [hlen, hil]⟩
    have dstOf : ∀ (j : Nat) (y : Ent) (o' : Oper), xs[j]? = some y → ops[j]? = some o' → y.dst = o'.dst := fun j y o' h1 h2 => (hplan j o' y h2 h1).1
    have opOf : ∀ (j : Nat) (y : Ent), xs[j]? = some y → ∃ o', ops[j]? = some o' := fun j y h => ⟨ops[j]'(by have := (List.getElem?_eq_some_iff.1 h).1; omega), by simp⟩
    -- what must come ahead of it has come, what must follow has not
    have ahead : ∀ j, nmem (anc ops i) j = true → j = i ∨ dn listed j = true := fun j hj => anc_closed hcl (fun o' ho' e hm => by rw [ho] at ho'; cases ho'; exact hpre e hm) hj
    have behind : ∀ j, dn listed j = true → nmem (anc ops j) i = true → j = i := fun j hj hn => by
      rcases anc_closed (j := j) hcl (fun o' ho' => hcl j o' ho' hj) hn with h | h
      · exact h.symm
      · rw [hd] at h; cases h
    have clashed : ∀ (j : Nat) (y : Ent) (o' : Oper), xs[j]? = some y → ops[j]? = some o' → j ≠ i → (j < i → clash ops o' o = true) → (i < j → clash ops o o' = true) → dn listed j = decide (j < i) := by
      intro j y o' hj ho' hne c1 c2
      by_cases hlt : j < i
      · rcases ahead j (slotsOk_iff hsl ho' ho hlt (c1 hlt)) with h | h
        · exact (hne h).elim
        · rw [h]; simp [hlt]
      · cases hS : dn listed j with
        | false => simp [hlt]
        | true => exact (hne (behind j hS (slotsOk_iff hsl ho ho' (by omega) (c2 (by omega))))).elim
    have keyed : ∀ (j : Nat) (y : Ent), xs[j]? = some y → j ≠ i → ¬ apartL (if j < i then (i, x.rd, ukeys x.upd) else (j, y.rd, ukeys y.upd)) (if j < i then (j, y.rd, ukeys y.upd) else (i, x.rd, ukeys x.upd)) → dn listed j = decide (j < i) := by
      intro j y hj hne hap
      by_cases hlt : j < i
      · rw [if_pos hlt, if_pos hlt] at hap
        have := logX_pair xs 0 [] hlog j i y x hj hx hlt
        simp only [Nat.zero_add] at this
        rcases this with h | h | h
        · exact (hap h).elim
        · have hlow : i ≤ j := by
            obtain ⟨o', ho'⟩ := opOf j y hj
            have hc : Closed ops (fun e => decide (e < j)) := fun i' o2 ho2 h2 e hm => by
              have := edgesOk_iff he ho2 e hm
              simp at h2 ⊢; omega
            rcases anc_closed (j := j) hc (fun o2 ho2 e hm => by have := edgesOk_iff he ho2 e hm; simpa using this) h with h | h
            · omega
            · simp at h; omega
          omega
        · rcases ahead j h with h | h
          · exact (hne h).elim
          · rw [h]; simp [hlt]
      · rw [if_neg hlt, if_neg hlt] at hap
        have := logX_pair xs 0 [] hlog i j x y hx hj (by omega)
        simp only [Nat.zero_add] at this
        cases hS : dn listed j with
        | false => simp [hlt]
        | true =>
          rcases this with h | h | h
          · exact (hap h).elim
          · rcases ahead j h with h | h
            · exact (hne h).elim
            · have hc : Closed ops (fun e => decide (e < i)) := fun i' o2 ho2 h2 e hm => by
                have := edgesOk_iff he ho2 e hm
                simp at h2 ⊢; omega
              rcases anc_closed (j := i) hc (fun o2 ho2 e hm => by have := edgesOk_iff he ho2 e hm; simpa using this) ‹_› with h | h
              · omega
              · simp at h; omega
          · exact (hne (behind j hS h)).elim
    have hst : Step T G ops (base + 8 * i) o x (runS (dn listed) xs 0 s0) := by
      have h0 := hplan i o x ho hx
      rw [runS_take] at h0
      refine h0.move (fun t ht => ?_) fun k hk => ?_
      · refine runS_slot xs 0 _ _ rfl rfl fun j y hj hy => ?_
        rw [Nat.zero_add]
        by_cases hji : j = i
        · subst hji; rw [hd]; simp
        · obtain ⟨o', ho'⟩ := opOf j y hj
          have hdo := dstOf j y o' hj ho'
          rw [hdo] at hy
          exact clashed j y o' hj ho' hji (fun _ => clash_of hy ht) fun _ => clash_of' hy ht
      · refine runS_key xs 0 _ _ rfl fun j y hj hy => ?_
        rw [Nat.zero_add]
        by_cases hji : j = i
        · subst hji; rw [hd]; simp
        · refine keyed j y hj hji fun hap => ?_
          by_cases hlt : j < i
          · rw [if_pos hlt, if_pos hlt] at hap
            exact hap.2 k hy hk
          · rw [if_neg hlt, if_neg hlt] at hap
            exact (hap.1 k hy).1 hk
    refine Step.run hT hG ho hst hs (fun k h1 h2 => ?_) fun a' w' I' σ' hs' hsize hσ => ?_
    · refine hf k (by omega) fun j hj hS hjk => ?_
      have : j = i := by omega
      subst this
      rw [hd] at hS; cases hS
    · obtain ⟨r1, r2⟩ := runS_add (s := s0) hx hd (fun j y hj hij hS t h1 h2 => by
        obtain ⟨o', ho'⟩ := opOf j y hj
        have q1 := dstOf j y o' hj ho'
        have q2 := dstOf i x o hx ho
        rw [q1] at h2
        rw [q2] at h1
        have := behind j hS (slotsOk_iff hsl ho ho' hij (clash_dst h1 h2))
        omega) fun j y hj hij hS k h1 h2 => by
          have := keyed j y hj (by omega) fun hap => by
            rw [if_neg (by omega), if_neg (by omega)] at hap
            exact (hap.1 k h2).2 h1
          rw [hS] at this
          simp at this
          omega
      have hdn : dn (listed.setIfInBounds i true) = fun j => dn listed j || decide (j = i) := funext fun j => dn_set (by omega) j
      have hS' : ∀ j, dn (listed.setIfInBounds i true) j = true ↔ (dn listed j = true ∨ j = i) := fun j => by rw [hdn]; simp
      refine ih (listed.setIfInBounds i true) a' w' I' σ' (by simp [hsz]) ?_ ?_ ?_ ?_
      · have := countP_lt (l := List.range ops.length) (p := fun j => !dn listed j) (q := fun j => !dn (listed.setIfInBounds i true) j) (fun j _ hj => by
          rw [hdn] at hj
          simp at hj ⊢
          exact hj.1) ⟨i, by simp [hil], by simp [hd], by rw [hdn]; simp⟩
        omega
      · intro j o' ho' hj e hm
        rcases (hS' j).1 hj with h | rfl
        · exact (hS' e).2 (.inl (hcl j o' ho' h e hm))
        · rw [ho] at ho'
          cases ho'
          exact (hS' e).2 (.inl (hpre e hm))
      · rw [hdn]
        exact hs'.congr (by rw [runS_len]; simp [Ent.app, lset?_length, runS_len]) r1 r2
      · intro k hk hno
        rcases hσ k with h | h
        · rw [h]
          exact hf k hk fun j hj hjS => hno j hj ((hS' j).2 (.inl hjS))
        · exact (hno i hil ((hS' i).2 (.inr rfl)) h).elim
end
end Go.Am
/- Code: what is shown of the symbolic state holds of the machine. -/
namespace Go.Am
set_option linter.all false
set_option linter.deprecated false
section
variable {ds : List Deferred} {P : Program} {a : Act} {w w' w0 : World} {I I' I0 : Nat → Prop} {σ σ' σ0 : Sig} {M M' M0 : MS} {T : TT} {G : Ctx}

theorem Sd.heap {s : PS} (h : Sd ds w0 I0 σ0 M0 s a w I σ) (hh : w'.heap = w.heap) (ho : w'.os = w.os) (ht : w'.tape = w.tape) (hu : w'.output = w.output) : Sd ds w0 I0 σ0 M0 s a w' I σ := by
  have K : Keep w I σ w' I σ := ⟨fun _ _ => by rw [hh], fun _ h => h, fun _ _ h => h⟩
  refine ⟨fun t => VR.keep K _ _ (h.envr t), h.len, ⟨fun b hb => by rw [hh]; exact h.ok.lt b hb, fun k o hk => ?_, h.ok.sep, h.ok.inj⟩, ?_, h.def0⟩
  · obtain ⟨p, hp, ho⟩ := h.ok.obj k o hk
    exact ⟨p, hp, OR.keep K (fun _ _ _ _ => by rw [hh]) ho⟩
  · have e := h.ext
    exact ⟨ho.trans e.os, ht.trans e.tape, hu.trans e.output, by rw [hh]; exact e.size, fun b h1 h2 => by rw [hh]; exact e.blk b h1 h2, e.mono, e.fresh, e.own, e.sig⟩
def AExit.to : AExit → Exit
  | .normal => .normal
  | .exit id => .exit id
  | .ret => .ret
/-- of the regions that draw: their orders are apart where they must -/
def codeOk : Code → Bool
  | .region _ ops true => edgesOk ops.toList && slotsOk ops.toList
  | .seq a b => codeOk a && codeOk b
  | .cond _ a b => codeOk a && codeOk b
  | .block _ c => codeOk c
  | .loop c => codeOk c
  | _ => true
theorem region_ok (hp : P.follows .mixedOrders = true) (hT : ∀ t i, T t = some i → TIok P t i) (hG : ∀ f C, G f = some C → CSound P f C) {ops : Array Oper} {id nx : Nat} {draw : Bool} {env : List AV} {Qm : Exit → Act → World → Prop} {K : AState → Prop}
    (hc : codeOk (.region id ops draw) = true)
    (h : match draw with
      | false => wopsN T G ops.toList nx ops.toList 0 ⟨env, M, [], []⟩ (fun r => K ⟨r.env, r.M, nx + 8 * ops.toList.length⟩)
      | true => wops T G ops.toList nx ops.toList 0 ⟨env, M, [], []⟩ (fun r => match okLog ops.toList r.log with
        | true => K ⟨r.env, r.M, nx + 8 * ops.toList.length⟩
        | false => False)) (hs : St ds w0 I0 σ0 M0 env M nx a w I σ)
    (hQ : ∀ s' a' w' I' σ', K s' → St ds w0 I0 σ0 M0 s'.env s'.M s'.nx a' w' I' σ' → Qm .normal a' w') : (Code.region id ops draw).wp P Qm a w := by
  cases draw with
  | false =>
    refine wp_region_list ?_
    have := wopsN_seq (ds := ds) (w0 := w0) (I0 := I0) (σ0 := σ0) (M0 := M0) (Q := Qm) hT hG ops.toList 0 ⟨env, M, [], []⟩ a w I σ h (by simpa using hs) (fun s b hb => by simp [rget] at hb)
      fun r' a' w' I' σ' hk hst => hQ ⟨r'.env, r'.M, nx + 8 * ops.toList.length⟩ a' w' I' σ' hk (by simpa using hst)
    simpa using this
  | true =>
    simp only [codeOk, Bool.and_eq_true] at hc
    obtain ⟨xs, r', hk, hlen, hrun, hlog, hplan⟩ := wops_plan ops.toList 0 _ h (fun s b hb => by simp [rget] at hb)
    simp only at hk hrun hlog hplan
    split at hk
    · rename_i hok
      refine wp_region_any hp ?_
      rw [hlog] at hok
      have hs1 : Sd ds w0 I0 σ0 M0 (env, M) a w I σ := ⟨hs.envr, hs.len, hs.ok, hs.ext, hs.def0⟩
      have := wpAny_plan (ds := ds) (w0 := w0) (I0 := I0) (σ0 := σ0) (M0 := M0) (Q := Qm) (base := nx) (s0 := (env, M)) hT hG hc.1 hc.2 hok hlen (fun j o x h1 h2 => by
        have := hplan j o x h1 h2
        rwa [Nat.zero_add] at this) (fun a' w' I' σ' hsd hfr => hQ _ a' w' I' σ' hk (by
          rw [← hrun] at hsd
          exact ⟨hsd.envr, hsd.len, hsd.ok, fun k hk => hfr k hk, hsd.ext, hsd.def0⟩))
        ops.size (Array.replicate ops.size false) a { w with drawn := w.drawn + 1 } I σ (by simp) (by
          refine Nat.le_trans (List.length_filter_le _ _) (by simp)) (fun i o _ h => by simp [dn, Array.getD_eq_getD_getElem?, Array.getElem?_replicate] at h; split at h <;> simp_all)
        (by rw [runS_none _ _ _ fun j hj => by simp [dn, Array.getD_eq_getD_getElem?, Array.getElem?_replicate]; split <;> rfl]; exact hs1.heap rfl rfl rfl rfl)
        (fun k hk _ => hs.free k hk)
      simpa using this
    · exact hk.elim
theorem awp_ok {m : Nat} (hm : ∀ k, m ≤ k → σ0 k = none) (hp : P.follows .mixedOrders = true) (hT : ∀ t i, T t = some i → TIok P t i) (hG : ∀ f C, G f = some C → CSound P f C) :
    ∀ (c : Code), codeOk c = true → ∀ (Qa : AExit → AState → Prop) (Qm : Exit → Act → World → Prop) (s : AState) (a : Act) (w : World) (I : Nat → Prop) (σ : Sig),
      awp T G m c Qa s → St ds w0 I0 σ0 M0 s.env s.M s.nx a w I σ → (∀ e s' a' w' I' σ', Qa e s' → St ds w0 I0 σ0 M0 s'.env s'.M s'.nx a' w' I' σ' → Qm e.to a' w') → c.wp P Qm a w := by
  intro c
  induction c with
  | skip => intro _ Qa Qm s a w I σ h hs hQ; exact wp_skip (hQ .normal s a w I σ h hs)
  | ret => intro _ Qa Qm s a w I σ h hs hQ; exact wp_ret (hQ .ret s a w I σ h hs)
  | exit id => intro _ Qa Qm s a w I σ h hs hQ; exact wp_exit (hQ (.exit id) s a w I σ h hs)
  | region id ops draw =>
    intro hc Qa Qm s a w I σ h hs hQ
    refine region_ok (draw := draw) (K := fun s => Qa .normal s) hp hT hG hc (by simp only [awp] at h; cases draw <;> exact h) hs fun s' a' w' I' σ' hk hst => hQ .normal s' a' w' I' σ' hk hst
  | seq x y ihx ihy =>
    intro hc Qa Qm s a w I σ h hs hQ
    simp only [codeOk, Bool.and_eq_true] at hc
    refine wp_seq (ihx hc.1 _ _ s a w I σ h hs fun e s' a' w' I' σ' hq hst => ?_)
    cases e with
    | normal => exact ihy hc.2 Qa Qm s' a' w' I' σ' hq hst hQ
    | exit id => exact hQ _ s' a' w' I' σ' hq hst
    | ret => exact hQ _ s' a' w' I' σ' hq hst
  | cond c x y ihx ihy =>
    intro hc Qa Qm s a w I σ h hs hQ
    simp only [codeOk, Bool.and_eq_true] at hc
    simp only [awp] at h
    split at h
    · rename_i b hb
      have hv := opv_ok hs.envr c
      rw [hb] at hv
      simp only [VR] at hv
      exact wp_cond_split hv (fun ht => ihx hc.1 Qa Qm s a w I σ (h.t ht) hs hQ) fun hf => ihy hc.2 Qa Qm s a w I σ (h.f hf) hs hQ
    · exact h.elim
  | block id c ih =>
    intro hc Qa Qm s a w I σ h hs hQ
    simp only [codeOk] at hc
    refine wp_block (ih hc _ _ s a w I σ h hs fun e s' a' w' I' σ' hq hst => ?_)
    cases e with
    | normal => exact hQ .normal s' a' w' I' σ' hq hst
    | exit i =>
      simp only at hq
      simp only [AExit.to, Exit.inBlock]
      split at hq
      · rename_i hb
        rw [if_pos (Nat.eq_of_beq_eq_true hb)]
        exact hQ .normal s' a' w' I' σ' hq hst
      · rename_i hb
        rw [if_neg (Nat.ne_of_beq_eq_false hb)]
        exact hQ (.exit i) s' a' w' I' σ' hq hst
    | ret => exact hQ .ret s' a' w' I' σ' hq hst
  | loop c ih =>
    intro hc Qa Qm s a w I σ h hs hQ
    simp only [codeOk] at hc
    obtain ⟨ι, inv, μ, x, start, round⟩ := h
    refine wp_loop_ghost (fun n a w => ∃ x, μ x = n ∧ ∃ I σ, St ds w0 I0 σ0 M0 (inv x).env (inv x).M (inv x).nx a w I σ) (μ x) ⟨x, rfl, fit_ok hm hs start⟩ ?_
    rintro n a w ⟨y, rfl, I, σ, hst⟩
    refine ih hc _ _ (inv y) a w I σ (round y) hst fun e s' a' w' I' σ' hq hst' => ?_
    cases e with
    | normal =>
      obtain ⟨z, hz, hf⟩ := hq
      exact ⟨μ z, hz, z, rfl, fit_ok hm hst' hf⟩
    | exit id => exact hQ (.exit id) s' a' w' I' σ' hq hst'
    | ret => exact hQ .ret s' a' w' I' σ' hq hst'
  | rangeFunc f ps asg b _ _ => intro _ Qa Qm s a w I σ h; exact h.elim
  | scope b _ => intro _ Qa Qm s a w I σ h; exact h.elim
  | label l => intro _ Qa Qm s a w I σ h; exact h.elim
  | goto l => intro _ Qa Qm s a w I σ h; exact h.elim
  | refuse y => intro _ Qa Qm s a w I σ h; exact h.elim
end
end Go.Am
/- A function by its body: its contract is kept. -/
namespace Go.Am
set_option linter.all false
set_option linter.deprecated false
section
variable {ds : List Deferred} {P : Program} {a : Act} {w w' w0 : World} {I I' I0 : Nat → Prop} {σ σ' σ0 : Sig} {M M' M0 : MS} {T : TT} {G : Ctx} {env : List AV}

def uns : Nat → List AV
  | 0 => []
  | n + 1 => .un :: uns n
def resV (T : TT) (M : MS) (env : List AV) : ResultVar → Option AV
  | .tmp t => some (lget env t)
  | .cell a t => match tget T t, lget env a with
    | some ti, .mp n off => match load1 M ti (.mp n off) with
      | some ⟨[], v, _, _⟩ => some v
      | _ => none
    | _, _ => none
def resVs (T : TT) (M : MS) (env : List AV) : List ResultVar → Option (List AV)
  | [] => some []
  | r :: rs => match resV T M env r, resVs T M env rs with
    | some v, some vs => some (v :: vs)
    | _, _ => none
def oneOr : List AV → AV
  | [v] => v
  | vs => .tup vs
def fend (T : TT) (m : Nat) (rs : List ResultVar) (val : AV) (M' : MS) : AExit → AState → Prop
  | .exit _, _ => False
  | _, s => match resVs T s.M s.env rs with
    | none => False
    | some vs => fit m ⟨[oneOr vs], s.M, s.nx⟩ ⟨[val], M', m + 8⟩
def finit (n : Nat) (args : List AV) : List AV := lapp args (uns (n - llen args))

theorem resVs_ok (hT : ∀ t i, T t = some i → TIok P t i) (hok : Ok w I σ M) (henv : EnvR w I σ env a.tmps) : ∀ (rs : List ResultVar) (vs : List AV), resVs T M env rs = some vs →
    ∃ us, VRs w I σ vs us ∧ ∀ g : ResultVar → Sem Value, (∀ t, g (.tmp t) = pure (a.tmps.getD t undef)) → (∀ b t, g (.cell b t) = do loadVar t (← asAddr (a.tmps.getD b undef))) → (rs.mapM g).run P w = .ok us w
  | [], vs, h => by
    simp only [resVs, Option.some.injEq] at h
    subst h
    exact ⟨[], by simp only [VRs], fun _ _ _ => rfl⟩
  | r :: rs, vs, h => by
    unfold resVs at h
    split at h <;> (try (cases h; done))
    rename_i v vs' h1 h2
    cases h
    obtain ⟨us, e2, e1⟩ := resVs_ok hT hok henv rs vs' h2
    have one : ∃ u, VR w I σ v u ∧ ∀ g : ResultVar → Sem Value, (∀ t, g (.tmp t) = pure (a.tmps.getD t undef)) → (∀ b t, g (.cell b t) = do loadVar t (← asAddr (a.tmps.getD b undef))) → (g r).run P w = .ok u w := by
      unfold resV at h1
      split at h1
      · rename_i t
        cases h1
        exact ⟨_, henv t, fun g q _ => by rw [q]; rfl⟩
      · rename_i b t
        split at h1 <;> (try (cases h1; done))
        rename_i ti n off ht hb
        split at h1 <;> (try (cases h1; done))
        rename_i v' _ _ hl
        cases h1
        have hv := henv b
        rw [hb] at hv
        obtain ⟨u, g1, g2, _⟩ := load1_ok (P := P) hok (hT _ _ ht) _ _ _ hl (by simp) hv
        refine ⟨u, g2, fun g _ q => ?_⟩
        simp only [VR] at hv
        rw [q]
        cases hs : σ n with
        | none => rw [hs] at hv; exact hv.elim
        | some q =>
          cases q with
          | none => rw [hs] at hv; exact hv.elim
          | some q =>
            rw [hs] at hv
            simp only [PtR] at hv
            rw [hv] at g1 ⊢
            simpa [Instr.loadAt, Instr.sureAddr, asAddr] using g1
    obtain ⟨u, g2, g1⟩ := one
    refine ⟨u :: us, ?_, fun g q1 q2 => ?_⟩
    · simp only [VRs]
      exact ⟨u, us, rfl, g2, e2⟩
    · simp only [List.mapM_cons, Sem.run_bind, g1 g q1 q2, Result.andThen_ok, e1 g q1 q2, Sem.run_pure]
theorem VRs.get : ∀ {vs : List AV} {us : List Value}, VRs w I σ vs us → ∀ (t : Nat), t < vs.length → VR w I σ (lget vs t) (us.getD t undef)
  | [], us, _, t, h => by simp at h
  | v :: vs, us, h, t, ht => by
    simp only [VRs] at h
    obtain ⟨u, us', rfl, h1, h⟩ := h
    cases t with
    | zero => exact h1
    | succ t => 
      have := VRs.get h t (by simpa using ht)
      simpa [lget] using this
theorem uns_get : ∀ (n t : Nat), lget (uns n) t = .un
  | 0, _ => rfl
  | n + 1, 0 => rfl
  | n + 1, t + 1 => uns_get n t
theorem uns_len : ∀ (n : Nat), (uns n).length = n
  | 0 => rfl
  | n + 1 => by simp [uns, uns_len n]
theorem lapp_get : ∀ (xs ys : List AV) (t : Nat), lget (lapp xs ys) t = if t < xs.length then lget xs t else lget ys (t - xs.length)
  | [], ys, t => by simp [lapp]
  | x :: xs, ys, 0 => by simp [lapp, lget]
  | x :: xs, ys, t + 1 => by
    simp only [lapp, lget, lapp_get xs ys t, List.length_cons, Nat.add_lt_add_iff_right, Nat.add_sub_add_right]
theorem fsound {f : FuncId} {fn : Func} {c : Code} {C : Contract} (hp : P.follows .mixedOrders = true) (hT : ∀ t i, T t = some i → TIok P t i) (hG : ∀ f C, G f = some C → CSound P f C)
    (hf : P.funcs[f]? = some fn) (hb : fn.body = some c) (hc : codeOk c = true) (hn : (fn.name == "runtime.NumGoroutine") = false)
    (h : ∀ args M r, C.fn args M = some r → (∀ p ∈ r.vc, p ()) → awp T G M.length c (fun e s => fend T M.length fn.results.toList r.val (mapply M r.objs) e s) ⟨finit fn.ntmps args, M, M.length⟩) (hn0 : ∀ args M, C.nfn args M = none := by intros; rfl) : CSound P f C := by
  refine ⟨fun args M r hr hvc => ?_, fun args M r hr => by rw [hn0] at hr; cases hr⟩
  intro w I σ vs hok hfree hargs o a K Q hK
  have hlen := hargs.length
  have hrun : (callFunc f vs.toArray).run P w = .ok (.enter f vs.toArray) w := by
    simp only [callFunc, Sem.run_bind, run_program, Result.andThen_ok, hf, hn, hb, Option.isNone_some, Bool.false_eq_true, if_false, Sem.run_pure]
  rw [hrun]
  refine calls_of_wp hf hb ?_
  have hst : St [] w I σ M (finit fn.ntmps args) M M.length { tmps := vs.toArray ++ Array.replicate (fn.ntmps - vs.toArray.size) undef, defers := [] } w I σ := by
    refine ⟨fun t => ?_, ?_, hok, hfree, Ext.refl hok, rfl⟩
    · simp only [finit, lapp_get]
      by_cases ht : t < args.length
      · rw [if_pos ht]
        have := hargs.get t ht
        simp only [Array.getD_eq_getD_getElem?, List.getD] at this ⊢
        rw [Array.getElem?_append_left (by simp; omega)]
        simpa using this
      · rw [if_neg ht, uns_get]
        simp only [VR]
    · have e1 : (lapp args (uns (fn.ntmps - llen args))).length = args.length + (fn.ntmps - llen args) := by
        have : ∀ (xs ys : List AV), (lapp xs ys).length = xs.length + ys.length := by
          intro xs
          induction xs with
          | nil => simp [lapp]
          | cons x xs ih => intro ys; simp [lapp, ih]; omega
        rw [this, uns_len]
      have e2 := llen_eq args
      rw [finit, e1, Array.size_append, Array.size_replicate, List.size_toArray]
      omega
  refine awp_ok hfree hp hT hG c hc _ _ _ _ _ I σ (h args M r hr hvc) hst fun e s' a' w' I' σ' hq hst' => ?_
  have done : (match resVs T s'.M s'.env fn.results.toList with
    | none => False
    | some vs => fit M.length ⟨[oneOr vs], s'.M, s'.nx⟩ ⟨[r.val], mapply M r.objs, M.length + 8⟩) → a'.defers = [] ∧ ∃ v, (results fn a'.tmps).run P w' = .ok v w' ∧ K (a.put o.dst v) w' := by
    intro hq
    refine ⟨hst'.def0, ?_⟩
    split at hq
    · exact hq.elim
    · rename_i vs' hvs
      obtain ⟨us, g2, g1⟩ := resVs_ok (P := P) (a := a') hT hst'.ok hst'.envr _ _ hvs
      have hus := g2.length
      obtain ⟨v, g3, g4⟩ : ∃ v, (results fn a'.tmps).run P w' = .ok v w' ∧ VR w' I' σ' (oneOr vs') v := by
        refine ⟨if h : us.toArray.size = 1 then us.toArray[0] else .tuple us.toArray, ?_, ?_⟩
        · simp only [results, Sem.run_bind, Array.mapM_eq_mapM_toList, Sem.run_map]
          rw [g1 _ (fun _ => rfl) (fun _ _ => rfl)]
          rfl
        · cases vs' with
          | nil =>
            cases us with
            | nil => simp only [oneOr, VR]; exact ⟨#[], by simp, by simp only [VRs]⟩
            | cons u us => simp at hus
          | cons v vs' =>
            cases vs' with
            | nil =>
              simp only [VRs] at g2
              obtain ⟨u, us', rfl, h1, rfl⟩ := g2
              simpa [oneOr] using h1
            | cons v2 vs' =>
              have hne : ¬ us.toArray.size = 1 := by simp; simp at hus; omega
              rw [dif_neg hne]
              simp only [oneOr, VR]
              exact ⟨us.toArray, rfl, g2⟩
      refine ⟨v, g3, ?_⟩
      have hst2 : St [] w I σ M [oneOr vs'] s'.M s'.nx { tmps := #[v], defers := [] } w' I' σ' := by
        refine ⟨fun t => ?_, by simp, hst'.ok, hst'.free, hst'.ext, rfl⟩
        cases t with
        | zero => exact g4
        | succ t => simp only [lget, VR]
      obtain ⟨J, τ, hf3⟩ := fit_ok (s := ⟨[oneOr vs'], s'.M, s'.nx⟩) hfree hst2 hq
      exact hK v w' ⟨J, τ, hf3.envr 0, hf3.ok, hf3.ext⟩
  cases e with
  | normal => exact done hq
  | ret => exact done hq
  | exit id => exact hq.elim
end
end Go.Am
/- What holds of every value that comes in: integers lie in their kinds, lengths are bounded. -/
namespace Go.Am
set_option linter.all false
set_option linter.deprecated false
section
variable {P : Program} {w : World} {I : Nat → Prop} {σ : Sig} {M : MS} {T : TT} {G : Ctx}
mutual
def WfD : Sh → D → Prop
  | .int k, d => wfB k d.toInt = true
  | .str, d => d.toStr.length ≤ 9223372036854775807
  | .slice e, d => d.toList.length ≤ 9223372036854775807 ∧ ∀ i, i < d.toList.length → WfDs e 0 (lk d.toList i)
  | _, _ => True
def WfDs : List Sh → Nat → List D → Prop
  | [], _, _ => True
  | s :: ss, j, ds => WfD s (lk ds j) ∧ WfDs ss (j + 1) ds
end
def WfR (e : List Sh) (xs : List (List D)) : Prop := xs.length ≤ 9223372036854775807 ∧ ∀ i, i < xs.length → WfDs e 0 (lk xs i)
mutual
def WfV : AV → Prop
  | .int k n => wfB k (n ()) = true
  | .str s => (s ()).length ≤ 9223372036854775807
  | .sl _ e xs => WfR e (xs ())
  | .ms _ lo len => lo () + len () ≤ 9223372036854775807
  | .agg cs | .tup cs | .pt cs | .fn _ cs => WfVs cs
  | _ => True
def WfVs : List AV → Prop
  | [] => True
  | v :: vs => WfV v ∧ WfVs vs
end
def WfO : MObj → Prop
  | .row _ e xs | .imm _ e xs => WfR e (xs ())
  | .obj cs => WfVs cs
  | .dp .. => True
def WfM : MS → Prop
  | [] => True
  | (_, o) :: M => WfO o ∧ WfM M
theorem maxLen_eq : maxLen = 9223372036854775807 := by decide
mutual
theorem Dat.wf : ∀ (s : Sh) (d : D) (v : Value), Dat w I s d v → WfD s d
  | .int k, d, v, h => by simp only [Dat] at h; simp only [WfD]; exact h.2
  | .bool, _, _, _ => by simp only [WfD]
  | .str, d, v, h => by
    simp only [Dat] at h
    obtain ⟨s, rfl, h1, h2⟩ := h
    simp only [WfD]
    rw [← h1, ← maxLen_eq]
    simpa using h2
  | .slice e, d, v, h => by
    simp only [Dat] at h
    obtain ⟨a, len, cap, _, e2, e3, e4, _, _, h⟩ := h
    simp only [WfD]
    rw [← maxLen_eq]
    refine ⟨by omega, fun i hi => ?_⟩
    obtain ⟨b, off, _, _, hd⟩ := h i (by omega)
    exact DatC.wf e 0 _ b _ hd
  | .ptr _, _, _, _ => by simp only [WfD]
  | .other, _, _, _ => by simp only [WfD]
theorem DatC.wf : ∀ (e : List Sh) (j : Nat) (ds : List D) (b o : Nat), DatC w I e j ds b o → WfDs e j ds
  | [], _, _, _, _, _ => by simp only [WfDs]
  | s :: ss, j, ds, b, o, h => by
    simp only [DatC] at h
    simp only [WfDs]
    obtain ⟨⟨u, _, hd⟩, h⟩ := h
    exact ⟨Dat.wf s _ u hd, DatC.wf ss (j + 1) ds b o h⟩
end
mutual
theorem VR.wf : ∀ (v : AV) (u : Value), VR w I σ v u → WfV v
  | .int k n, u, h => by simp only [VR] at h; simp only [WfV]; exact h.2
  | .str s, u, h => by
    simp only [VR] at h
    obtain ⟨t, rfl, h1, h2⟩ := h
    simp only [WfV]
    rw [← h1, ← maxLen_eq]
    simpa using h2
  | .sl nn e xs, u, h => by
    simp only [VR] at h
    have := Dat.wf _ _ _ h.1
    simp only [WfD] at this
    simp only [WfV, WfR]
    exact this
  | .ms n lo len, u, h => by
    simp only [VR, MsR] at h
    simp only [WfV]
    split at h
    · exact h.elim
    · omega
    · obtain ⟨off, cap, _, _, h1, h2, h3⟩ := h
      rw [maxLen_eq] at h3
      omega
  | .agg cs, u, h => by simp only [VR] at h; obtain ⟨us, _, h⟩ := h; simp only [WfV]; exact VRs.wf cs _ h
  | .tup cs, u, h => by simp only [VR] at h; obtain ⟨us, _, h⟩ := h; simp only [WfV]; exact VRs.wf cs _ h
  | .fn f cs, u, h => by simp only [VR] at h; obtain ⟨us, _, h⟩ := h; simp only [WfV]; exact VRs.wf cs _ h
  | .pt cs, u, h => by simp only [VR] at h; obtain ⟨b, off, _, h⟩ := h; simp only [WfV]; exact VRat.wf cs b off h
  | .un, _, _ => by simp only [WfV]
  | .udf, _, _ => by simp only [WfV]
  | .bool _, _, _ => by simp only [WfV]
  | .nils, _, _ => by simp only [WfV]
  | .nilp, _, _ => by simp only [WfV]
  | .nilf, _, _ => by simp only [WfV]
  | .yl _, _, _ => by simp only [WfV]
  | .mp .., _, _ => by simp only [WfV]
  | .me .., _, _ => by simp only [WfV]
  | .ax .., _, _ => by simp only [WfV]
theorem VRs.wf : ∀ (vs : List AV) (us : List Value), VRs w I σ vs us → WfVs vs
  | [], _, _ => by simp only [WfVs]
  | v :: vs, us, h => by
    simp only [VRs] at h
    obtain ⟨u, us', rfl, h1, h⟩ := h
    simp only [WfVs]
    exact ⟨VR.wf v u h1, VRs.wf vs us' h⟩
theorem VRat.wf : ∀ (vs : List AV) (b off : Nat), VRat w I σ vs b off → WfVs vs
  | [], _, _, _ => by simp only [WfVs]
  | v :: vs, b, off, h => by
    simp only [VRat] at h
    obtain ⟨⟨_, u, _, h1⟩, h⟩ := h
    simp only [WfVs]
    exact ⟨VR.wf v u h1, VRat.wf vs b (off + 1) h⟩
end
theorem OR.wf {p : Option Pl} {o : MObj} (h : OR w I σ p o) : WfO o := by
  have row : ∀ (p : Pl) e xs, RowR w I p e xs → WfR e xs := fun p e xs h => by
    obtain ⟨cs, t, fz, _, _, _, _, _, h1, h2, h3⟩ := h
    rw [maxLen_eq] at h2
    exact ⟨by omega, fun i hi => DatC.wf e 0 _ _ _ (h3 i hi)⟩
  have nil : ∀ (e : List Sh) (xs : List (List D)), xs = [] → WfR e xs := fun e xs h => by subst h; exact ⟨by simp, fun i hi => by simp at hi⟩
  cases p with
  | none =>
    cases o with
    | row nn e xs => exact nil _ _ h.2.1
    | imm nn e xs => exact nil _ _ h.2.1
    | obj cs => exact h.elim
    | dp e j xs => trivial
  | some p =>
    cases o with
    | row nn e xs => exact row p _ _ h.1
    | imm nn e xs => exact row p _ _ h.1
    | obj cs =>
      obtain ⟨us, t, fz, _, _, hv⟩ := h
      exact VRs.wf cs _ hv
    | dp e j xs => trivial
def nodupK : MS → Prop
  | [] => True
  | (k, _) :: M => mget M k = none ∧ nodupK M
theorem Ok.wfM (h : Ok w I σ M) : ∀ (N : MS), (∀ k o, mget N k = some o → mget M k = some o) → nodupK N → WfM N
  | [], _, _ => by simp only [WfM]
  | (k, o) :: N, hN, hd => by
    simp only [WfM]
    obtain ⟨p, _, ho⟩ := h.obj k o (hN k o (by simp [mget, Nat.beq_refl]))
    refine ⟨ho.wf, h.wfM N (fun k' o' hk => hN k' o' ?_) hd.2⟩
    simp only [mget]
    split
    · rename_i hb
      have := Nat.eq_of_beq_eq_true hb
      subst this
      rw [hd.1] at hk
      cases hk
    · exact hk
/-- A function by its body: with what is known of all that comes in. -/
theorem fsound' {f : FuncId} {fn : Func} {c : Code} {C : Contract} (hp : P.follows .mixedOrders = true) (hT : ∀ t i, T t = some i → TIok P t i) (hG : ∀ f C, G f = some C → CSound P f C)
    (hf : P.funcs[f]? = some fn) (hb : fn.body = some c) (hc : codeOk c = true) (hn : (fn.name == "runtime.NumGoroutine") = false)
    (h : ∀ args M r, C.fn args M = some r → (∀ p ∈ r.vc, p ()) → WfVs args → (nodupK M → WfM M) →
      awp T G M.length c (fun e s => fend T M.length fn.results.toList r.val (mapply M r.objs) e s) ⟨finit fn.ntmps args, M, M.length⟩) (hn0 : ∀ args M, C.nfn args M = none := by intros; rfl) : CSound P f C := by
  refine ⟨fun args M r hr hvc => ?_, fun args M r hr => by rw [hn0] at hr; cases hr⟩
  intro w I σ vs hok hfree hargs
  -- the bare law, for this call alone: a contract that answers here only
  have h2 : CSound P f { modes := C.modes, fn := fun args' M' => open Classical in if args' = args ∧ M' = M then some r else none } := by
    refine fsound hp hT hG hf hb hc hn fun args' M' r' hr' hvc' => ?_
    simp only at hr'
    split at hr'
    · rename_i he
      obtain ⟨rfl, rfl⟩ := he
      cases hr'
      exact h args' M' r hr hvc (hargs.wf) (fun hd => hok.wfM M' (fun _ _ h => h) hd)
    · cases hr'
  exact h2.det args M r (by simp) hvc w I σ vs hok hfree hargs
end
end Go.Am
/- Small helps for the contracts' proofs. -/
namespace Go.Am
set_option linter.all false
set_option linter.deprecated false
def codeOf (f : Func) : Code := match f.body with | some c => c | none => .skip
/-- bytes as a row's data, and back -/
def rowB (bs : List Nat) : List (List D) := bs.map fun (b : Nat) => [D.int (b : Int)]
def bn (xs : List (List D)) : List Nat := xs.map fun c => (lk c 0).toInt.toNat
abbrev U8 : List Sh := [.int .u8]
theorem wfB_iff (k : IntKind) (n : Int) : wfB k n = true ↔ k.min ≤ n ∧ n ≤ k.max := by simp [wfB]
theorem u8_iff (n : Int) : wfB .u8 n = true ↔ 0 ≤ n ∧ n < 256 := by rw [wfB_iff]; simp [IntKind.min, IntKind.max, IntKind.signed, IntKind.bits]; omega
theorem u32_iff (n : Int) : wfB .u32 n = true ↔ 0 ≤ n ∧ n < 4294967296 := by rw [wfB_iff]; simp [IntKind.min, IntKind.max, IntKind.signed, IntKind.bits]; omega
theorem u64_iff (n : Int) : wfB .u64 n = true ↔ 0 ≤ n ∧ n < 18446744073709551616 := by rw [wfB_iff]; simp [IntKind.min, IntKind.max, IntKind.signed, IntKind.bits]; omega
theorem i64_iff (n : Int) : wfB .i64 n = true ↔ -9223372036854775808 ≤ n ∧ n < 9223372036854775808 := by rw [wfB_iff]; simp [IntKind.min, IntKind.max, IntKind.signed, IntKind.bits]; omega
theorem wrap_of {k : IntKind} {n : Int} (h : wfB k n = true) : k.wrap n = n := by
  rw [wfB_iff] at h
  cases k <;> simp [IntKind.wrap, IntKind.min, IntKind.max, IntKind.signed, IntKind.bits] at h ⊢ <;> omega
theorem wrap_i64 {n : Int} (h : -9223372036854775808 ≤ n ∧ n < 9223372036854775808) : IntKind.i64.wrap n = n := wrap_of ((i64_iff n).2 h)
theorem wrap_u64 {n : Int} (h : 0 ≤ n ∧ n < 18446744073709551616) : IntKind.u64.wrap n = n := wrap_of ((u64_iff n).2 h)
theorem wrap_u64_mod (n : Int) : IntKind.u64.wrap n = n % 18446744073709551616 := by simp [IntKind.wrap, IntKind.signed, IntKind.bits]
theorem wrap_u32_mod (n : Int) : IntKind.u32.wrap n = n % 4294967296 := by simp [IntKind.wrap, IntKind.signed, IntKind.bits]
theorem wrap_u8_mod (n : Int) : IntKind.u8.wrap n = n % 256 := by simp [IntKind.wrap, IntKind.signed, IntKind.bits]
@[simp] theorem bn_len (xs : List (List D)) : (bn xs).length = xs.length := by simp [bn]
@[simp] theorem rowB_len (bs : List Nat) : (rowB bs).length = bs.length := by simp [rowB]
@[simp] theorem bn_rowB (bs : List Nat) : bn (rowB bs) = bs := by
  simp only [bn, rowB, List.map_map]
  conv => rhs; rw [← List.map_id bs]
  exact List.map_congr_left fun b _ => by simp [lk, D.toInt]
theorem bn_append (xs ys : List (List D)) : bn (xs ++ ys) = bn xs ++ bn ys := by simp [bn]
theorem bn_take (xs : List (List D)) (n : Nat) : bn (xs.take n) = (bn xs).take n := by simp [bn, List.map_take]
theorem bn_drop (xs : List (List D)) (n : Nat) : bn (xs.drop n) = (bn xs).drop n := by simp [bn, List.map_drop]
theorem rowB_append (a b : List Nat) : rowB (a ++ b) = rowB a ++ rowB b := by simp [rowB]
theorem bn_lt {xs : List (List D)} (h : WfR U8 xs) : ∀ b ∈ bn xs, b < 256 := by
  intro b hb
  obtain ⟨i, hi, rfl⟩ := List.getElem_of_mem hb
  have := h.2 i (by simpa using hi)
  simp only [WfDs, WfD, and_true] at this
  rw [u8_iff] at this
  have e : lk xs i = xs[i]'(by simpa using hi) := by simp [lk, List.getD, List.getElem?_eq_getElem (show i < xs.length by simpa using hi)]
  rw [e] at this
  simp only [bn, List.getElem_map]
  omega
theorem bn_at {xs : List (List D)} (h : WfR U8 xs) {i : Nat} (hi : i < xs.length) : (lk (lk xs i) 0).toInt = (((bn xs).getD i 0 : Nat) : Int) := by
  have := h.2 i hi
  simp only [WfDs, WfD, and_true] at this
  rw [u8_iff] at this
  have e : (bn xs).getD i 0 = (lk (lk xs i) 0).toInt.toNat := by simp [bn, lk, List.getD, List.getElem?_eq_getElem hi]
  rw [e]
  omega
theorem WfR.take {e : List Sh} {xs : List (List D)} (h : WfR e xs) (n : Nat) : WfR e (xs.take n) :=
  ⟨by simp; have := h.1; omega, fun i hi => by
    rw [List.length_take] at hi
    have h1 : i < n := by omega
    have := h.2 i (by omega)
    simpa [lk, List.getD, List.getElem?_take, h1] using this⟩
theorem WfR.drop {e : List Sh} {xs : List (List D)} (h : WfR e xs) (n : Nat) : WfR e (xs.drop n) :=
  ⟨by simp; have := h.1; omega, fun i hi => by
    simp at hi
    have := h.2 (n + i) (by omega)
    simpa [lk, List.getD, List.getElem?_drop] using this⟩
@[simp] theorem dall_one (f : Unit → D) : dall [f] = [f ()] := rfl
theorem Hold.iff {p : Unit → Prop} : Hold p ↔ p () := ⟨fun h => h.1, .mk⟩
@[simp] theorem take_rowB (bs : List Nat) : (rowB bs).take bs.length = rowB bs := List.take_of_length_le (by simp)
theorem rowB_one (b : Nat) : rowB [b] = [[D.int (b : Int)]] := rfl
/-- casts as the evaluator leaves them, and back: two steps -/
theorem zc1 (n : Nat) : @NatCast.natCast Int instNatCastInt n = Int.ofNat n := rfl
theorem zc2 (n : Nat) : Int.ofNat n = (n : Int) := rfl
theorem ne_t {a b : Int} (h : (a != b) = true) : a ≠ b := by simpa using h
theorem ne_f {a b : Int} (h : (a != b) = false) : a = b := by simpa using h
theorem eq_t {a b : Int} (h : (a == b) = true) : a = b := by simpa using h
theorem eq_f {a b : Int} (h : (a == b) = false) : a ≠ b := by simpa using h
theorem Split.yes {X Y : Unit → Prop} (h : X ()) : Split (fun _ => true) X Y := ⟨fun _ => h, fun h => by cases h⟩
theorem Split.no {X Y : Unit → Prop} (h : Y ()) : Split (fun _ => false) X Y := ⟨fun h => (by cases h), fun _ => h⟩
theorem Split.ofT {b : Unit → Bool} {X Y : Unit → Prop} (hb : b () = true) (h : X ()) : Split b X Y := ⟨fun _ => h, fun e => by rw [hb] at e; cases e⟩
theorem Split.ofF {b : Unit → Bool} {X Y : Unit → Prop} (hb : b () = false) (h : Y ()) : Split b X Y := ⟨fun e => (by rw [hb] at e; cases e), fun _ => h⟩
/-- an environment by its slots -/
def ev1 : List (Nat × AV) → Nat → AV
  | [], _ => .un
  | (k, v) :: l, i => match Nat.beq k i with | true => v | false => ev1 l i
def evs : Nat → Nat → List (Nat × AV) → List AV
  | 0, _, _ => []
  | n + 1, i, l => ev1 l i :: evs n (i + 1) l
def ev (n : Nat) (l : List (Nat × AV)) : List AV := evs n 0 l
theorem csound_weak {P : Program} {f : FuncId} {C C' : Contract} (h : CSound P f C') (hh : ∀ args M r, C.fn args M = some r → (∀ p ∈ r.vc, p ()) → WfVs args → ∃ args' r', C'.fn args' M = some r' ∧ (∀ p ∈ r'.vc, p ()) ∧ r'.val = r.val ∧ r'.objs = r.objs ∧ ∀ w I σ vs, VRs w I σ args vs → VRs w I σ args' vs) (hn0 : ∀ args M, C.nfn args M = none := by intros; rfl) : CSound P f C := by
  refine ⟨fun args M r hr hvc => ?_, fun args M r hr => by rw [hn0] at hr; cases hr⟩
  intro w I σ vs hok hfree hargs
  obtain ⟨args', r', h1, h2, h3, h4, h5⟩ := hh args M r hr hvc hargs.wf
  have := h.det args' M r' h1 h2 w I σ vs hok hfree (h5 w I σ vs hargs)
  rw [h3, h4] at this
  exact this
theorem csound_of {P : Program} {f : FuncId} {C C' : Contract} (h : CSound P f C') (hh : ∀ args M r, C.fn args M = some r → (∀ p ∈ r.vc, p ()) → WfVs args → ∃ r', C'.fn args M = some r' ∧ (∀ p ∈ r'.vc, p ()) ∧ r'.val = r.val ∧ r'.objs = r.objs) (hn0 : ∀ args M, C.nfn args M = none := by intros; rfl) : CSound P f C :=
  csound_weak h (fun args M r hr hvc hw => by
    obtain ⟨r', h1, h2, h3, h4⟩ := hh args M r hr hvc hw
    exact ⟨args, r', h1, h2, h3, h4, fun _ _ _ _ h => h⟩) hn0
theorem nils_sl {w : World} {I : Nat → Prop} {σ : Sig} {e : List Sh} (he : 0 < e.length) {v : Value} (h : VR w I σ .nils v) : VR w I σ (.sl false e fun _ => []) v := by
  simp only [VR] at h ⊢
  subst h
  refine ⟨?_, fun h => by cases h⟩
  simp only [Dat, D.toList]
  exact ⟨none, 0, 0, rfl, rfl, Nat.le_refl _, Nat.zero_le _, fun _ => rfl, he, fun i hi => by simp at hi⟩
theorem Split.d {p : Prop} [Decidable p] {X Y : Unit → Prop} (f : p → X ()) (g : ¬ p → Y ()) : Split (fun _ => decide p) X Y := ⟨fun h => f (of_decide_eq_true h), fun h => g (of_decide_eq_false h)⟩
/-- contracts by number -/
def gget : List (Nat × Contract) → Nat → Option Contract
  | [], _ => none
  | (k, c) :: L, n => match Nat.beq k n with | true => some c | false => gget L n
theorem gget_nil (P : Program) : ∀ f C, gget [] f = some C → CSound P f C := fun _ _ h => by simp [gget] at h
theorem gget_cons {P : Program} {L : List (Nat × Contract)} {k : Nat} {c : Contract} (h : CSound P k c) (hL : ∀ f C, gget L f = some C → CSound P f C) : ∀ f C, gget ((k, c) :: L) f = some C → CSound P f C := by
  intro f C hf
  simp only [gget] at hf
  split at hf
  · rename_i hb
    have hb := Nat.eq_of_beq_eq_true hb
    subst hb
    cases hf
    exact h
  · exact hL f C hf
end Go.Am
/- A law's function, called with arguments that came in: it returns true and writes nothing that was there. -/
namespace Go.Am
set_option linter.all false
set_option linter.deprecated false
open Go.RowKit Go.RowKit
/-- all blocks that are there -/
def allB (w : World) : Nat → Prop := fun b => b < w.heap.size
def noS : Sig := fun _ => none
theorem ok_nil (w : World) : Ok w (allB w) noS [] :=
  ⟨fun _ h => h, fun k o h => by simp [mget] at h, fun b ⟨k, o, p, h, _⟩ => by simp [mget] at h, fun k k' o o' p p' b h => by simp [mget] at h⟩
theorem law_calls {P : Program} {f : FuncId} {C : Contract} (hC : CSound P f C) {args : List AV} {vs : List Value} {w : World} {b : Unit → Bool} {r : Res}
    (hf : C.fn args [] = some r) (hr : r.val = .bool b) (hb : b () = true) (hvc : ∀ p ∈ r.vc, p ()) (hv : VRs w (allB w) noS args vs) {fn : Func} (h1 : P.funcs[f]? = some fn) (h2 : (fn.name == "runtime.NumGoroutine") = false) (h3 : fn.body.isNone = false) :
    Calls P f vs.toArray w fun e w' => e = .returned (.bool true) ∧ Below w.heap.size w w' := by
  have h := hC.det args [] r hf hvc w (allB w) noS vs (ok_nil w) (fun _ _ => rfl) hv
  have h := h { (default : Oper) with dst := some 0 } { tmps := #[undef], defers := [] } (fun a w' => a.tmps.getD 0 undef = .bool true ∧ Below w.heap.size w w') (fun _ _ _ => False) (fun v w' hh => by
    obtain ⟨I', σ', g1, _, g3⟩ := hh
    rw [hr] at g1
    simp only [VR] at g1
    refine ⟨by simp [Act.put, g1, hb], g3.os, g3.tape, g3.output, g3.size, fun k hk => g3.blk k hk fun ⟨_, _, _, q, _⟩ => by simp [mget] at q⟩)
  have hrun : (callFunc f vs.toArray).run P w = .ok (.enter f vs.toArray) w := by
    simp only [callFunc, Sem.run_bind, run_program, Result.andThen_ok, h1, h2, h3, Bool.false_eq_true, if_false, Sem.run_pure]
  rw [hrun] at h
  refine Calls.mono h fun e w' he => ?_
  cases e with
  | returned v =>
    simp only [Act.put] at he
    refine ⟨?_, he.2⟩
    have := he.1
    simp at this
    rw [this]
  | panicked ch => exact he.elim
  | outgrown => obtain ⟨_, _, q⟩ := he; exact q.elim
/-- a slice of integers that came in -/
def IsRow (k : IntKind) (w : World) (a : Option Addr) (len cap : Nat) (zs : List Int) : Prop :=
  (a = none ∧ len = 0 ∧ cap = 0 ∧ zs = []) ∨
  ∃ x, a = some x ∧ len ≤ cap ∧ cap ≤ maxLen ∧ zs.length = cap ∧ (∀ i, i < zs.length → w.cell? (x.add i) = some (.int k (zs.getD i 0))) ∧ ∀ n ∈ zs, (Lit.int k n).wf = true
theorem cell_lt {w : World} {x : Addr} {v : Value} (h : w.cell? x = some v) : x.block < w.heap.size := by
  unfold World.cell? at h
  split at h
  · rename_i hb
    exact (Array.getElem?_eq_some_iff.1 hb).1
  · cases h
theorem wf_lit {k : IntKind} {n : Int} (h : (Lit.int k n).wf = true) : wfB k n = true := by
  simpa [Lit.wf, wfB] using h
theorem row_of {k : IntKind} {w : World} {a : Option Addr} {len cap : Nat} {zs : List Int} (h : IsRow k w a len cap zs) : VR w (allB w) noS (.sl false [.int k] fun _ => (zs.take len).map fun z => [D.int z]) (.slice a len cap) := by
  simp only [VR, Dat]
  refine ⟨?_, fun h => by cases h⟩
  rcases h with ⟨rfl, rfl, rfl, rfl⟩ | ⟨x, rfl, h1, h2, h3, h4, h5⟩
  · exact ⟨none, 0, 0, rfl, by simp [D.toList], Nat.le_refl _, Nat.zero_le _, fun _ => rfl, by simp, fun i hi => by omega⟩
  · refine ⟨some x, len, cap, rfl, by simp [D.toList]; omega, h1, h2, fun h => (by cases h), by simp, fun i hi => ?_⟩
    have hc := h4 i (by omega)
    have hb := cell_lt hc
    obtain ⟨b, off, spot⟩ := x
    have hadd : ∀ s : Option Nat, s = none → (⟨b, off, s⟩ : Addr).add i = ⟨b, off + i, none⟩ := fun s e => by subst e; simp only [Addr.add]; split <;> simp_all
    have hs : spot = none := by simpa [Addr.add] using World.cell?_spot (h4 0 (by omega))
    subst hs
    rw [hadd _ rfl] at hc hb
    refine ⟨b, off, rfl, hb, ?_⟩
    simp only [DatC]
    have e : lk (lk (D.list ((zs.take len).map fun z => [D.int z])).toList i) 0 = D.int (zs.getD i 0) := by
      have hl : i < zs.length := by omega
      simp [lk, D.toList, List.getD, hi, hl]
    refine ⟨⟨.int k (zs.getD i 0), by simpa using hc, ?_⟩, trivial⟩
    rw [e]
    simp only [Dat, D.toInt, true_and]
    refine wf_lit (h5 _ ?_)
    have hl : i < zs.length := by omega
    simp [List.getD, hl]
end Go.Am
/- What came in, of whatever type without pointers and maps: it is data. -/
namespace Go.Am
set_option linter.all false
set_option linter.deprecated false
open Go.RowKit Go.ChangeShapes Go.WideShapes Go.ChangeAt
/-- the shape of a type's cells -/
def shp (P : Program) : Nat → TypeId → Option (List Sh)
  | 0, _ => none
  | n + 1, t => match P.underlying t with
    | some .bool => some [.bool]
    | some (.int k) => some [.int k]
    | some .string => some [.str]
    | some (.slice e) => match shp P n e with
      | some (s :: ss) => if (s :: ss).length = P.cellsOf e then some [.slice (s :: ss)] else none
      | _ => none
    | some (.struct fs) => match shpFs (shp P n) P fs.toList 0 with
      | some e => if e.length = P.cellsOf t then some e else none
      | none => none
    | some (.array c e) => match shp P n e with
      | some es => if es.length = P.cellsOf e ∧ (repSh es c).length = P.cellsOf t then some (repSh es c) else none
      | none => none
    | _ => none
where shpFs (g : TypeId → Option (List Sh)) (P : Program) : List Field → Nat → Option (List Sh)
  | [], _ => some []
  | f :: fs, o => match g f.type with
    | some es => if f.offset = o ∧ es.length = P.cellsOf f.type then match shpFs g P fs (o + es.length) with
        | some rest => some (es ++ rest)
        | none => none
      else none
    | none => none
section
variable {P : Program} {w : World} {H : Type} {enc : TypeId × Value → H}
theorem DatL.shift {I : Nat → Prop} : ∀ {e : List Sh} {j : Nat} {ds : List D} {cs : List Value} {pre : List D}, DatL w I e j ds cs → DatL w I e (pre.length + j) (pre ++ ds) cs
  | [], _, _, _, _, h => h
  | s :: ss, j, ds, cs, pre, h => by
    simp only [DatL] at h ⊢
    obtain ⟨u, cs', rfl, hd, h⟩ := h
    refine ⟨u, cs', rfl, ?_, ?_⟩
    · have : lk (pre ++ ds) (pre.length + j) = lk ds j := by simp only [lk, List.getD]; rw [List.getElem?_append_right (by omega), Nat.add_sub_cancel_left]
      rw [this]; exact hd
    · have := DatL.shift (pre := pre) h
      rwa [Nat.add_assoc]
theorem DatL.more {I : Nat → Prop} : ∀ {e : List Sh} {j : Nat} {ds : List D} {cs : List Value} {post : List D}, j + e.length ≤ ds.length → DatL w I e j ds cs → DatL w I e j (ds ++ post) cs
  | [], _, _, _, _, _, h => h
  | s :: ss, j, ds, cs, post, hl, h => by
    simp only [List.length_cons] at hl
    simp only [DatL] at h ⊢
    obtain ⟨u, cs', rfl, hd, h⟩ := h
    refine ⟨u, cs', rfl, ?_, DatL.more (by omega) h⟩
    have : lk (ds ++ post) j = lk ds j := by simp only [lk, List.getD]; rw [List.getElem?_append_left (by omega)]
    rw [this]; exact hd
theorem DatL.app {I : Nat → Prop} : ∀ {e1 e2 : List Sh} {j : Nat} {ds : List D} {c1 c2 : List Value}, DatL w I e1 j ds c1 → DatL w I e2 (j + e1.length) ds c2 → DatL w I (e1 ++ e2) j ds (c1 ++ c2)
  | [], _, _, _, c1, _, h1, h2 => by
    simp only [DatL] at h1
    subst h1
    simpa using h2
  | s :: ss, e2, j, ds, c1, c2, h1, h2 => by
    simp only [DatL, List.cons_append] at h1 ⊢
    obtain ⟨u, cs', rfl, hd, h⟩ := h1
    refine ⟨u, cs' ++ c2, rfl, hd, DatL.app h ?_⟩
    rwa [show j + 1 + ss.length = j + (s :: ss).length by simp; omega]
/-- two pieces -/
theorem DatL.two {I : Nat → Prop} {e1 e2 : List Sh} {d1 d2 : List D} {c1 c2 : List Value} (hl : d1.length = e1.length) (h1 : DatL w I e1 0 d1 c1) (h2 : DatL w I e2 0 d2 c2) : DatL w I (e1 ++ e2) 0 (d1 ++ d2) (c1 ++ c2) := by
  refine DatL.app (h1.more (by omega)) ?_
  have := h2.shift (pre := d1)
  rw [hl] at this
  rwa [Nat.zero_add]
theorem mapM_get {α β : Type} {f : α → Option β} : ∀ {xs : List α} {ys : List β}, xs.mapM f = some ys → ys.length = xs.length ∧ ∀ (i : Nat) (x : α), xs[i]? = some x → ∃ y, ys[i]? = some y ∧ f x = some y
  | [], ys, h => by
    simp at h
    subst h
    exact ⟨rfl, fun i x hx => by simp at hx⟩
  | x :: xs, ys, h => by
    rw [List.mapM_cons] at h
    cases hx : f x with
    | none => rw [hx] at h; cases h
    | some y =>
      rw [hx] at h
      cases hxs : xs.mapM f with
      | none => rw [hxs] at h; cases h
      | some ys' =>
        rw [hxs] at h
        cases h
        obtain ⟨h1, h2⟩ := mapM_get hxs
        refine ⟨by simp [h1], fun i z hz => ?_⟩
        cases i with
        | zero => simp at hz; subst hz; exact ⟨y, rfl, hx⟩
        | succ i => exact h2 i z (by simpa using hz)
/-- what has been trodden is data of its type's shape -/
theorem trod_dat : ∀ (m fuel : Nat) (t : TypeId) (cs : List Value) (x : DataW H × List MemPlace) (e : List Sh), DataW.trod enc P w 0 (fun _ => true) true fuel t cs = some x → shp P m t = some e → ∃ ds : List D, ds.length = e.length ∧ DatL w (allB w) e 0 ds cs
  | 0, _, _, _, _, _, _, h => by simp [shp] at h
  | _ + 1, 0, _, _, _, _, h, _ => by simp [DataW.trod] at h
  | m + 1, fuel + 1, t, cs, x, e, h, hs => by
    simp only [shp] at hs
    unfold DataW.trod at h
    split at hs
    · rename_i hu
      rw [hu] at h
      cases hs
      split at h <;> (try (simp_all; done))
      rename_i b he
      refine ⟨[.bool b], rfl, ?_⟩
      simp only [DatL, Dat, lk, List.getD, List.getElem?_cons_zero, Option.getD_some, D.toBool]
      exact ⟨_, [], rfl, rfl, rfl⟩
    · rename_i k hu
      rw [hu] at h
      cases hs
      split at h <;> (try (simp_all; done))
      rename_i k1 k' n he
      cases he
      split at h
      · rename_i hk
        obtain ⟨rfl, hwf⟩ := hk
        refine ⟨[.int n], rfl, ?_⟩
        simp only [DatL, Dat, lk, List.getD, List.getElem?_cons_zero, Option.getD_some, D.toInt]
        exact ⟨_, [], rfl, ⟨rfl, wf_lit hwf⟩, rfl⟩
      · cases h
    · rename_i hu
      rw [hu] at h
      cases hs
      split at h <;> (try (simp_all; done))
      rename_i s he
      split at h
      · rename_i hl
        refine ⟨[.str s.data.toList], rfl, ?_⟩
        simp only [DatL, Dat, lk, List.getD, List.getElem?_cons_zero, Option.getD_some, D.toStr]
        exact ⟨_, [], rfl, ⟨s, rfl, rfl, hl⟩, rfl⟩
      · cases h
    · rename_i el hu
      split at hs <;> (try (cases hs; done))
      rename_i s ss hes
      split at hs <;> (try (cases hs; done))
      rename_i hlen
      cases hs
      rcases DataW.trod_slice (enc := enc) (w := w) (base := 0) (spare := fun _ => true) (held := true) (fuel := fuel + 1) (cs := cs) (x := x) hu (by unfold DataW.trod; exact h) with ⟨rfl, _⟩ | ⟨a, len, cap, elems, rest, n, hn, rfl, _, _, hl, hm, hle, hel, _, _⟩
      · refine ⟨[.list []], rfl, ?_⟩
        simp only [DatL, Dat, lk, List.getD, List.getElem?_cons_zero, Option.getD_some, D.toList]
        exact ⟨_, [], rfl, ⟨none, 0, 0, rfl, rfl, Nat.le_refl _, Nat.zero_le _, fun _ => rfl, by simp, fun i hi => by simp at hi⟩, rfl⟩
      · have hfn : n = fuel := by omega
        subst hfn
        have each : ∀ i, i < len → ∃ ds : List D, ds.length = (s :: ss).length ∧ ∃ ci, DatL w (allB w) (s :: ss) 0 ds ci ∧ w.cells? 0 (a.add (i * P.cellsOf el)) (P.cellsOf el) = some ci := fun i hi => by
          have h1 := hel i hi
          rw [List.getElem?_eq_getElem (by omega)] at h1
          cases hc : w.cells? 0 (a.add (i * P.cellsOf el)) (P.cellsOf el) with
          | none => rw [hc] at h1; cases h1
          | some ci =>
            rw [hc] at h1
            obtain ⟨ds, g1, g2⟩ := trod_dat m n el ci _ _ h1 hes
            exact ⟨ds, g1, ci, g2, rfl⟩
        let f : Nat → List D := fun i => if h : i < len then (each i h).choose else []
        refine ⟨[.list ((List.range len).map f)], rfl, ?_⟩
        simp only [DatL, Dat, lk, List.getD, List.getElem?_cons_zero, Option.getD_some, D.toList]
        refine ⟨_, [], rfl, ⟨some a, len, cap, rfl, by simp, hl, hm, fun hh => (by cases hh), by simp, fun i hi => ?_⟩, rfl⟩
        have hi' : i < len := by simpa using hi
        obtain ⟨ci, hd, hc⟩ := (each i hi').choose_spec.2
        obtain ⟨_, hcl, hcell⟩ := World.cells?_some hc
        have h0 : 0 < P.cellsOf el := by rw [← hlen]; simp
        have hc0 := hcell 0 h0
        rw [List.getElem?_eq_getElem (by omega)] at hc0
        have hlt := cell_lt hc0
        obtain ⟨b, off, spot⟩ := a
        have hs : spot = none := by
          obtain ⟨c0, _, hc0'⟩ := (each 0 (by omega)).choose_spec.2
          obtain ⟨_, hcl0, hcell0⟩ := World.cells?_some hc0'
          have h2 := hcell0 0 h0
          rw [List.getElem?_eq_getElem (by omega)] at h2
          have h3 := World.cell?_spot h2
          simpa [Addr.add] using h3
        subst hs
        have hadd : ∀ o k : Nat, (⟨b, o, none⟩ : Addr).add k = ⟨b, o + k, none⟩ := fun o k => by
          simp only [Addr.add]; split <;> simp_all
        rw [hadd, hadd] at hlt
        refine ⟨b, off, rfl, hlt, ?_⟩
        have hf : (List.map f (List.range len))[i]?.getD default = (each i hi').choose := by
          simp [f, hi']
        rw [hf]
        refine DatL.toC _ 0 _ _ ci hd fun k c hk => ?_
        have hkl : k < P.cellsOf el := by
          have := (List.getElem?_eq_some_iff.1 hk).1
          omega
        have := hcell k hkl
        rw [hadd, hadd, hk] at this
        rw [hlen]
        simpa using this
    · rename_i fs hu
      rw [hu] at h
      have key : ∀ (gs : List Field) (o : Nat) (e : List Sh) (ys : List (DataW H × List MemPlace)), shp.shpFs (shp P m) P gs o = some e → gs.mapM (fun f => DataW.trod enc P w 0 (fun _ => true) true fuel f.type ((cs.drop f.offset).take (P.cellsOf f.type))) = some ys → o + e.length ≤ cs.length →
          ∃ ds : List D, ds.length = e.length ∧ DatL w (allB w) e 0 ds ((cs.drop o).take e.length) := by
        intro gs
        induction gs with
        | nil =>
          intro o e ys hse _ _
          simp only [shp.shpFs, Option.some.injEq] at hse
          subst hse
          exact ⟨[], rfl, by simp [DatL]⟩
        | cons g gs ih =>
          intro o e ys hse hm hl
          simp only [shp.shpFs] at hse
          split at hse <;> (try (cases hse; done))
          rename_i es hes
          split at hse <;> (try (cases hse; done))
          rename_i hoff
          obtain ⟨ho, hesl⟩ := hoff
          split at hse <;> (try (cases hse; done))
          rename_i rest hrest
          cases hse
          obtain ⟨h1, h2⟩ := mapM_get hm
          obtain ⟨y, _, hy⟩ := h2 0 g rfl
          obtain ⟨d1, l1, g1⟩ := trod_dat m fuel g.type _ y es hy hes
          have hm2 : ∃ ys', gs.mapM (fun f => DataW.trod enc P w 0 (fun _ => true) true fuel f.type ((cs.drop f.offset).take (P.cellsOf f.type))) = some ys' := by
            rw [List.mapM_cons] at hm
            cases hg : DataW.trod enc P w 0 (fun _ => true) true fuel g.type ((cs.drop g.offset).take (P.cellsOf g.type)) with
            | none => rw [hg] at hm; cases hm
            | some y0 =>
              rw [hg] at hm
              cases hgs : gs.mapM (fun f => DataW.trod enc P w 0 (fun _ => true) true fuel f.type ((cs.drop f.offset).take (P.cellsOf f.type))) with
              | none => rw [hgs] at hm; cases hm
              | some ys' => exact ⟨ys', rfl⟩
          obtain ⟨ys', hm2⟩ := hm2
          rw [List.length_append] at hl
          obtain ⟨d2, l2, g2⟩ := ih (o + es.length) rest ys' hrest hm2 (by omega)
          refine ⟨d1 ++ d2, by simp [l1, l2], ?_⟩
          have : (cs.drop o).take (es ++ rest).length = (cs.drop o).take es.length ++ (cs.drop (o + es.length)).take rest.length := by
            rw [List.length_append, List.take_add, List.drop_drop]
          rw [this]
          rw [ho, ← hesl] at g1
          exact DatL.two l1 g1 g2
      split at hs <;> (try (cases hs; done))
      rename_i e' he'
      split at hs <;> (try (cases hs; done))
      rename_i hel
      cases hs
      split at h <;> (try (simp_all; done))
      rename_i fs' cs' hfs
      cases hfs
      split at h <;> (try (cases h; done))
      rename_i hcl
      obtain ⟨ys, hys, _⟩ := Option.map_eq_some_iff.1 h
      obtain ⟨ds, l1, g1⟩ := key fs.toList 0 e ys he' hys (by omega)
      refine ⟨ds, l1, ?_⟩
      rwa [List.drop_zero, List.take_of_length_le (by omega)] at g1
    · rename_i c el hu
      rw [hu] at h
      split at hs <;> (try (cases hs; done))
      rename_i es hes
      split at hs <;> (try (cases hs; done))
      rename_i hel
      cases hs
      have key : ∀ ys, (List.range c).mapM (fun i => DataW.trod enc P w 0 (fun _ => true) true fuel el ((cs.drop (i * P.cellsOf el)).take (P.cellsOf el))) = some ys → ∀ (k o : Nat), o + k = c → ∃ ds : List D, ds.length = (repSh es k).length ∧ DatL w (allB w) (repSh es k) 0 ds ((cs.drop (o * es.length)).take (repSh es k).length) := by
        intro ys hys
        obtain ⟨h1, h2⟩ := mapM_get hys
        intro k
        induction k with
        | zero => intro o _; exact ⟨[], rfl, by simp [repSh, DatL]⟩
        | succ k ih =>
          intro o ho
          obtain ⟨y, _, hy⟩ := h2 o o (by rw [List.getElem?_range (by omega)])
          obtain ⟨d1, l1, g1⟩ := trod_dat m fuel el _ y es hy hes
          obtain ⟨d2, l2, g2⟩ := ih (o + 1) (by omega)
          refine ⟨d1 ++ d2, by simp [repSh, l1, l2], ?_⟩
          have : (cs.drop (o * es.length)).take (repSh es (k + 1)).length = (cs.drop (o * es.length)).take es.length ++ (cs.drop ((o + 1) * es.length)).take (repSh es k).length := by
            rw [repSh, List.length_append, List.take_add, List.drop_drop, Nat.succ_mul]
          rw [this, repSh]
          rw [← hel.1] at g1
          exact DatL.two l1 g1 g2
      split at h <;> (try (simp_all; done))
      rename_i n' el' cs' hfs
      cases hfs
      split at h <;> (try (cases h; done))
      rename_i hcl
      obtain ⟨ys, hys, _⟩ := Option.map_eq_some_iff.1 h
      obtain ⟨ds, l1, g1⟩ := key ys hys c 0 (by omega)
      refine ⟨ds, l1, ?_⟩
      rwa [Nat.zero_mul, List.drop_zero, List.take_of_length_le (by omega)] at g1
    · cases hs
end
section
variable {P : Program} {w : World} {H : Type} {enc : TypeId × Value → H}
theorem avs_go {I : Nat → Prop} {σ : Sig} {ds : List D} : ∀ (e : List Sh) (j : Nat) (cs : List Value), DatL w I e j ds cs → VRs w I σ (avs.go (fun _ => ds) e j) cs
  | [], _, cs, h => by simp only [DatL] at h; simp only [avs.go, VRs]; exact h
  | s :: ss, j, cs, h => by
    simp only [DatL] at h
    obtain ⟨u, cs', rfl, hd, h⟩ := h
    simp only [avs.go, VRs]
    refine ⟨u, cs', rfl, ?_, avs_go ss (j + 1) cs' h⟩
    cases s with
    | int k => simpa only [av, VR, Dat] using hd
    | bool => simpa only [av, VR, Dat] using hd
    | str => simpa only [av, VR, Dat] using hd
    | slice e => simp only [av, VR]; exact ⟨hd, fun h => by cases h⟩
    | ptr e => simp only [av, VR]
    | other => simp only [av, VR]
/-- a slice that came in -/
theorem trod_sl {m : Nat} {t el : TypeId} {es : List Sh} {v : Value} {d : DataW H} {p : List MemPlace} {base : Nat} (hu : P.underlying t = some (.slice el)) (hs : shp P m t = some [.slice es]) (hk : Value.okWide P w .any base t v) (h : DataW.Trod enc P w 0 (fun _ => true) true t v d p) :
    ∃ xs : List (List D), VR w (allB w) noS (.sl false es fun _ => xs) v := by
  obtain ⟨a, len, cap, rfl⟩ := okWide_slice hu hk
  obtain ⟨fuel, h⟩ := h
  obtain ⟨ds, _, hd⟩ := trod_dat m fuel t _ _ _ h hs
  simp only [DatL] at hd
  obtain ⟨u, cs', e1, hd, _⟩ := hd
  have e2 : Value.slice a len cap = u := by simpa [Value.cells] using (List.cons.inj e1).1
  subst e2
  refine ⟨(lk ds 0).toList, ?_⟩
  simp only [VR]
  refine ⟨?_, fun h => by cases h⟩
  simpa only [Dat, D.toList] using hd
/-- a struct, an array -/
theorem trod_agg {m : Nat} {t : TypeId} {es : List Sh} {us : Array Value} {d : DataW H} {p : List MemPlace} (hs : shp P m t = some es) (h : DataW.Trod enc P w 0 (fun _ => true) true t (.agg us) d p) :
    ∃ ds : List D, VR w (allB w) noS (.agg (avs es fun _ => ds)) (.agg us) := by
  obtain ⟨fuel, h⟩ := h
  obtain ⟨ds, _, hd⟩ := trod_dat m fuel t _ _ _ h hs
  refine ⟨ds, ?_⟩
  simp only [VR]
  exact ⟨us, rfl, avs_go es 0 _ (by simpa [Value.cells] using hd)⟩
theorem trod_int {t : TypeId} {k : IntKind} {v : Value} {d : DataW H} {p : List MemPlace} {base : Nat} (hu : P.underlying t = some (.int k)) (hk : Value.okWide P w .any base t v) (h : DataW.Trod enc P w 0 (fun _ => true) true t v d p) :
    ∃ n : Int, VR w (allB w) noS (.int k fun _ => n) v := by
  obtain ⟨n, rfl⟩ := okWide_int hu hk
  obtain ⟨fuel, h⟩ := h
  obtain ⟨ds, _, hd⟩ := trod_dat 1 fuel t _ _ [.int k] h (by simp only [shp, hu])
  simp only [DatL] at hd
  obtain ⟨u, cs', e1, hd, _⟩ := hd
  have e2 : Value.int k n = u := by simpa [Value.cells] using (List.cons.inj e1).1
  subst e2
  refine ⟨n, ?_⟩
  simp only [Dat, Value.int.injEq, true_and] at hd
  simp only [VR, true_and]
  rw [hd.1]; exact hd.2
end
end Go.Am
/- A law's function that writes into bytes that came in and puts them back: the row is a window of a block that is there. -/
namespace Go.Am
set_option linter.all false
set_option linter.deprecated false
open Go.RowKit Go.ChangeShapes Go.WideShapes Go.ChangeAt
section
variable {P : Program} {w : World} {H : Type} {enc : TypeId × Value → H}
/-- a slice of bytes that came in, with what lies behind its length -/
structure Win (w : World) (b off len cap : Nat) (cs : Array Value) (t : TypeId) (fz : Nat × Nat) (zs : List Int) : Prop where
  blk : w.heap[b]? = some (.cells cs t fz)
  le : len ≤ cap
  mx : cap ≤ maxLen
  zl : zs.length = cap
  at_ : ∀ i, i < cap → cs[off + i]? = some (.int .u8 (zs.getD i 0)) ∧ wfB .u8 (zs.getD i 0) = true ∧ ¬ (fz.1 ≤ off + i ∧ off + i < fz.2)
theorem trod_win {t el : TypeId} {v : Value} {d : DataW H} {p ps : List MemPlace} {base : Nat} (hu : P.underlying t = some (.slice el)) (he : P.underlying el = some (.int .u8)) (hc : P.cellsOf el = 1) (hk : Value.okWide P w .any base t v) (h : DataW.Trod enc P w 0 (fun _ => true) true t v d p)
    (hps : ∀ x ∈ p, x ∈ ps) (hf : w.noneFrozen ps) : v = .slice none 0 0 ∨ ∃ b off len cap cs t0 fz zs, v = .slice (some ⟨b, off, none⟩) len cap ∧ Win w b off len cap cs t0 fz zs := by
  obtain ⟨a0, len, cap, rfl⟩ := okWide_slice hu hk
  obtain ⟨fuel, h⟩ := h
  rcases DataW.trod_slice (enc := enc) (w := w) (base := 0) (spare := fun _ => true) (held := true) (fuel := fuel) (t := t) hu h with ⟨h1, _⟩ | ⟨a, len', cap', elems, rest, n, hn, h1, h2, _, hl, hm, hle, hel, hsp, _⟩
  · left
    simpa [Value.cells] using h1
  · right
    simp only [Value.cells] at h1
    have h1 : Value.slice a0 len cap = Value.slice (some a) len' cap' := by simpa using h1
    cases h1
    simp only [Value.okWide, hu, Cell.okWide, Cell.ok] at hk
    obtain ⟨_, _, _, hspot, row, cells, hsh, _⟩ := hk
    obtain ⟨b, off, spot⟩ := a
    simp only at hspot
    subst hspot
    obtain ⟨cs, t0, fz, hb⟩ : ∃ cs t0 fz, w.heap[b]? = some (.cells cs t0 fz) := by
      unfold World.shape? at hsh
      split at hsh
      · rename_i c e f hh; exact ⟨c, e, f, hh⟩
      · cases hsh
    obtain ⟨hrl, hrest⟩ := hsp rfl
    have each : ∀ i, i < cap → ∃ z : Int, cs[off + i]? = some (.int .u8 z) ∧ wfB .u8 z = true := by
      intro i hi
      have h3 : ∃ x, (w.cells? 0 ((⟨b, off, none⟩ : Addr).add (i * P.cellsOf el)) (P.cellsOf el)).bind (DataW.trod enc P w 0 (fun _ => true) true n el) = some x := by
        by_cases hil : i < len
        · exact ⟨elems[i], by rw [hel i hil, List.getElem?_eq_getElem (by omega)]⟩
        · have := hrest (i - len) (by omega)
          rw [show len + (i - len) = i by omega] at this
          exact ⟨rest[i - len], by rw [this, List.getElem?_eq_getElem (by omega)]⟩
      obtain ⟨x, hx⟩ := h3
      cases hcs : w.cells? 0 ((⟨b, off, none⟩ : Addr).add (i * P.cellsOf el)) (P.cellsOf el) with
      | none => rw [hcs] at hx; cases hx
      | some ci =>
        rw [hcs] at hx
        obtain ⟨_, hcl, hcell⟩ := World.cells?_some hcs
        obtain ⟨ds, g1, g2⟩ := trod_dat 1 n el ci x [.int .u8] hx (by simp only [shp, he])
        simp only [DatL] at g2
        obtain ⟨u, cs', rfl, hd, rfl⟩ := g2
        simp only [Dat] at hd
        have h4 := hcell 0 (by omega)
        rw [Addr.add_lit, Addr.add_lit, cell_of_row w b _ cs t0 fz hb, hc, Nat.mul_one, Nat.add_zero] at h4
        exact ⟨_, by rw [h4, hd.1]; rfl, hd.2⟩
    let f : Nat → Int := fun i => if h : i < cap then (each i h).choose else 0
    refine ⟨b, off, len, cap, cs, t0, fz, (List.range cap).map f, rfl, hb, hl, hm, by simp, fun i hi => ?_⟩
    have e1 : ((List.range cap).map f).getD i 0 = (each i hi).choose := by
      simp only [List.getD, List.getElem?_map, List.getElem?_range hi, Option.map_some, Option.getD_some, f, hi, dite_true]
    rw [e1]
    refine ⟨(each i hi).choose_spec.1, (each i hi).choose_spec.2, fun hh => ?_⟩
    have h5 := hf b (off + i) (hps _ ?_)
    · simp only [World.frozen?, hb] at h5
      simp only [Bool.and_eq_false_iff, decide_eq_false_iff_not] at h5
      omega
    · have h6 := congrArg Prod.snd h2
      simp only at h6
      rw [h6, hc, hle, hrl]
      refine List.mem_append_left _ ?_
      simp only [MemPlace.row, List.mem_map, List.mem_range]
      exact ⟨i, by omega, rfl⟩
end
/-- a call with objects that are there -/
theorem law_calls1 {P : Program} {f : FuncId} {C : Contract} (hC : CSound P f C) {args : List AV} {vs : List Value} {w : World} {I : Nat → Prop} {σ : Sig} {M : MS} {b : Unit → Bool} {r : Res} {R : World → Prop}
    (hf : C.fn args M = some r) (hr : r.val = .bool b) (hb : b () = true) (hvc : ∀ p ∈ r.vc, p ()) (hok : Ok w I σ M) (hfree : ∀ k, M.length ≤ k → σ k = none) (hv : VRs w I σ args vs) {fn : Func} (h1 : P.funcs[f]? = some fn) (h2 : (fn.name == "runtime.NumGoroutine") = false) (h3 : fn.body.isNone = false)
    (hR : ∀ w' I' σ', Ok w' I' σ' (mapply M r.objs) → Ext w I σ M w' I' σ' (mapply M r.objs) → R w') :
    Calls P f vs.toArray w fun e w' => e = .returned (.bool true) ∧ R w' := by
  have h := hC.det args M r hf hvc w I σ vs hok hfree hv
  have h := h { (default : Oper) with dst := some 0 } { tmps := #[undef], defers := [] } (fun a w' => a.tmps.getD 0 undef = .bool true ∧ R w') (fun _ _ _ => False) (fun v w' hh => by
    obtain ⟨I', σ', g1, g2, g3⟩ := hh
    rw [hr] at g1
    simp only [VR] at g1
    refine ⟨by simp [Act.put, g1, hb], hR w' I' σ' g2 g3⟩)
  have hrun : (callFunc f vs.toArray).run P w = .ok (.enter f vs.toArray) w := by
    simp only [callFunc, Sem.run_bind, run_program, Result.andThen_ok, h1, h2, h3, Bool.false_eq_true, if_false, Sem.run_pure]
  rw [hrun] at h
  refine Calls.mono h fun e w' he => ?_
  cases e with
  | returned v =>
    simp only [Act.put] at he
    refine ⟨?_, he.2⟩
    have := he.1
    simp at this
    rw [this]
  | panicked ch => exact he.elim
  | outgrown => obtain ⟨_, _, q⟩ := he; exact q.elim
def zrow (zs : List Int) : List (List D) := zs.map fun z => [D.int z]
theorem zrow_at {zs : List Int} {i : Nat} (h : i < zs.length) : lk (lk (zrow zs) i) 0 = D.int (zs.getD i 0) := by
  simp [zrow, lk, List.getD, h]
/-- a law of bytes and a number, the bytes being left as they were -/
theorem law_win {P : Program} {f : FuncId} {C : Contract} (hC : CSound P f C) {v u : Value} {w : World} {n : Int} {k : IntKind}
    (hf : ∀ (lo len : Unit → Nat) (z : Unit → List (List D)), lo () = 0 → len () ≤ (z ()).length → ∃ r, C.fn [.ms 0 lo len, .int k fun _ => n] [(0, .row false [.int .u8] z)] = some r ∧ (∃ b, r.val = .bool b ∧ b () = true) ∧ (∀ p ∈ r.vc, p ()) ∧ r.objs = [(0, some (.row false [.int .u8] z))])
    (hv : v = .slice none 0 0 ∨ ∃ b off len cap cs t0 fz zs, v = .slice (some ⟨b, off, none⟩) len cap ∧ Win w b off len cap cs t0 fz zs) (hu : u = .int k n ∧ wfB k n = true) {fn : Func} (h1 : P.funcs[f]? = some fn) (h2 : (fn.name == "runtime.NumGoroutine") = false) (h3 : fn.body.isNone = false) :
    Calls P f #[v, u] w fun e w' => e = .returned (.bool true) ∧ Below w.heap.size w w' := by
  have go : ∀ (p : Option Pl) (len : Nat) (zs : List Int), len ≤ zs.length → OR w (fun _ => False) (fun _ => none) p (.row false [.int .u8] fun _ => zrow zs) → MsR (some p) 0 len v →
      (∀ q w' I' σ', p = some q → OR w' I' σ' p (.row false [.int .u8] fun _ => zrow zs) → w'.heap[q.b]? = w.heap[q.b]?) → Calls P f #[v, u] w fun e w' => e = .returned (.bool true) ∧ Below w.heap.size w w' := by
    intro p len zs hl hor hms hback
    obtain ⟨σ, hσ⟩ : ∃ σ : Sig, σ = fun k => if k = 0 then some p else none := ⟨_, rfl⟩
    have hσ0 : σ 0 = some p := by rw [hσ]; rfl
    obtain ⟨r, g1, ⟨bb, g2, g3⟩, g4, g5⟩ := hf (fun _ => 0) (fun _ => len) (fun _ => zrow zs) rfl (by simpa [zrow] using hl)
    have hM : ∀ k o, mget [(0, MObj.row false [.int .u8] fun _ => zrow zs)] k = some o → k = 0 ∧ o = .row false [.int .u8] fun _ => zrow zs := fun k o hk => by
      simp only [mget] at hk
      split at hk <;> (try (cases hk; done))
      rename_i hb
      cases hk
      exact ⟨(Nat.eq_of_beq_eq_true hb).symm, rfl⟩
    have hok : Ok w (fun _ => False) σ [(0, .row false [.int .u8] fun _ => zrow zs)] := by
      refine ⟨fun _ h => h.elim, fun k o hk => ?_, fun _ _ h => h, fun k k' o o' _ _ _ hk hk' _ _ _ _ _ _ => ?_⟩
      · obtain ⟨rfl, rfl⟩ := hM k o hk
        refine ⟨p, hσ0, ?_⟩
        cases p with
        | none => exact hor
        | some q => exact hor
      · rw [(hM k o hk).1, (hM k' o' hk').1]
    refine law_calls1 hC (vs := [v, u]) g1 g2 g3 g4 hok (fun k hk => ?_) ?_ h1 h2 h3 fun w' I' σ' o1 o2 => ?_
    · simp only [List.length_singleton] at hk
      rw [hσ]
      simp only [if_neg (show ¬ k = 0 by omega)]
    · simp only [VRs, VR]
      refine ⟨v, _, rfl, ?_, u, _, rfl, hu, rfl⟩
      rw [hσ0]
      exact hms
    · rw [g5] at o1 o2
      refine ⟨o2.os, o2.tape, o2.output, o2.size, fun b hb => ?_⟩
      by_cases ho : Owned σ [(0, .row false [.int .u8] fun _ => zrow zs)] b
      · obtain ⟨k, o, q, hk, _, hs, hfo⟩ := ho
        obtain ⟨rfl, rfl⟩ := hM k o hk
        rw [hσ0] at hs
        cases hs
        have hfo : q.b = b := hfo
        subst hfo
        obtain ⟨p', hp', hor'⟩ := o1.obj 0 (.row false [.int .u8] fun _ => zrow zs) rfl
        have := o2.sig 0 _ hσ0
        rw [this] at hp'
        cases hp'
        exact hback q w' I' σ' rfl hor'
      · exact o2.blk b hb ho
  rcases hv with rfl | ⟨b, off, len, cap, cs, t0, fz, zs, rfl, hw⟩
  · refine go none 0 [] (Nat.le_refl _) ⟨rfl, rfl, by decide⟩ ⟨rfl, rfl, rfl⟩ fun q _ _ _ h => by cases h
  · obtain ⟨o, ho1, ho2⟩ : ∃ o, (cap = 0 ∨ o = off) ∧ o + cap ≤ cs.size := by
      by_cases hc : cap = 0
      · exact ⟨0, .inl hc, by omega⟩
      · refine ⟨off, .inr rfl, ?_⟩
        have := (hw.at_ (cap - 1) (by omega)).1
        have := (Array.getElem?_eq_some_iff.1 this).1
        omega
    have hat : ∀ i, i < cap → cs[o + i]? = some (.int .u8 (zs.getD i 0)) ∧ wfB .u8 (zs.getD i 0) = true ∧ ¬ (fz.1 ≤ o + i ∧ o + i < fz.2) := fun i hi => by
      rcases ho1 with h | h
      · omega
      · rw [h]; exact hw.at_ i hi
    refine go (some ⟨b, cap, 1, fun _ => False, o, cs.size - (o + cap), some (cs, t0, fz)⟩) len zs (by rw [hw.zl]; exact hw.le) ?_ ?_ fun q w' I' σ' hq hor => ?_
    · refine ⟨⟨cs, t0, fz, hw.blk, ⟨fun k hk1 hk2 => ?_, ⟨fun h => (by cases h), fun q hq => ?_⟩⟩, ?_, rfl, by decide, by simp [zrow, hw.zl], hw.mx, fun i hi => ?_⟩, fun h => by cases h⟩
      · simp only at hk1 hk2
        obtain ⟨i, rfl⟩ : ∃ i, k = o + i := ⟨k - o, by omega⟩
        exact (hat i (by omega)).2.2
      · cases hq
        exact ⟨rfl, rfl, rfl, fun _ _ => rfl⟩
      · simp only; omega
      · have hi : i < cap := by
          have h : i < (zrow zs).length := hi
          simpa [zrow, hw.zl] using h
        simp only [DatC, and_true]
        refine ⟨.int .u8 (zs.getD i 0), ?_, ?_⟩
        · rw [cell_of_row w b _ cs t0 fz hw.blk, Nat.mul_one, Nat.add_zero]
          exact (hat i hi).1
        · rw [zrow_at (by rw [hw.zl]; exact hi)]
          simp only [Dat, D.toInt, true_and]
          exact (hat i hi).2.1
    · refine ⟨off, cap, rfl, ?_, by simp, hw.le, hw.mx⟩
      rcases ho1 with h | h
      · exact .inl h
      · right; simp [h]
    · cases hq
      obtain ⟨⟨cs', t', fz', hb', ⟨_, _, hpin⟩, hsz, _, _, _, _, hd⟩, _⟩ := hor
      obtain ⟨e1, e2, e3, e4⟩ := hpin _ rfl
      simp only at e1 e2 e3 e4 hd hb'
      have : cs' = cs := by
        apply Array.ext_getElem?
        intro k
        by_cases hk : k < o ∨ o + cap * 1 ≤ k
        · exact e4 k hk
        · obtain ⟨i, rfl⟩ : ∃ i, k = o + i := ⟨k - o, by omega⟩
          have hi : i < cap := by omega
          have := hd i (by simpa [zrow, hw.zl] using hi)
          simp only [DatC, and_true] at this
          obtain ⟨x, hx1, hx2⟩ := this
          rw [cell_of_row w' b _ cs' t' fz' hb', Nat.mul_one, Nat.add_zero] at hx1
          rw [zrow_at (by rw [hw.zl]; exact hi)] at hx2
          simp only [Dat, D.toInt] at hx2
          rw [hx1, (hat i hi).1, hx2.1]
      rw [hb', hw.blk, this, e1, e2]
end Go.Am
/- The check of bytes: what it is, and how the machine's numbers reckon it. -/
namespace Go.Am
set_option linter.all false
set_option linter.deprecated false
abbrev B32 := BitVec 32
def cpoly : B32 := 3988292384#32
def csh (r : B32) : B32 := (r >>> 1) ^^^ (cpoly &&& -(r &&& 1#32))
def citer : Nat → B32 → B32
  | 0, r => r
  | n + 1, r => citer n (csh r)
def cbyte (s : B32) (c : Nat) : B32 := ~~~ (citer 8 (~~~ s ^^^ BitVec.ofNat 32 c))
def crcs (s : B32) (bs : List Nat) : B32 := bs.foldl cbyte s
theorem wrap_u32_nat (n : Nat) (h : n < 4294967296) : IntKind.u32.wrap (n : Int) = n := by rw [wrap_u32_mod]; omega
theorem ofInt_toNat (a : B32) : BitVec.ofInt 32 ((a.toNat : Nat) : Int) = a := by
  apply BitVec.eq_of_toNat_eq
  rw [BitVec.toNat_ofInt]
  have := a.isLt
  omega
theorem ib_xor (a b : B32) : ibits .xor .u32 (a.toNat : Int) (b.toNat : Int) = ((a ^^^ b).toNat : Int) := by
  show IntKind.u32.wrap (((BitVec.ofInt 32 (a.toNat : Int) ^^^ BitVec.ofInt 32 (b.toNat : Int) : B32).toNat : Nat) : Int) = _
  rw [ofInt_toNat, ofInt_toNat, wrap_u32_nat _ (a ^^^ b).isLt]
theorem ib_and (a b : B32) : ibits .and .u32 (a.toNat : Int) (b.toNat : Int) = ((a &&& b).toNat : Int) := by
  show IntKind.u32.wrap (((BitVec.ofInt 32 (a.toNat : Int) &&& BitVec.ofInt 32 (b.toNat : Int) : B32).toNat : Nat) : Int) = _
  rw [ofInt_toNat, ofInt_toNat, wrap_u32_nat _ (a &&& b).isLt]
theorem ib_not (a : B32) : ibits .xor .u32 (if IntKind.u32.signed then -1 else IntKind.u32.max) (a.toNat : Int) = ((~~~ a).toNat : Int) := by
  have e : (if IntKind.u32.signed then -1 else IntKind.u32.max) = (((BitVec.allOnes 32 : B32).toNat : Nat) : Int) := by decide
  rw [e, ib_xor, BitVec.allOnes_xor]
theorem ib_neg (a : B32) : IntKind.u32.wrap (0 - (a.toNat : Int)) = ((-a).toNat : Int) := by
  rw [wrap_u32_mod, BitVec.toNat_neg]
  have := a.isLt
  omega
theorem ib_shr (a : B32) : ishr .u32 (a.toNat : Int) 1 = ((a >>> 1).toNat : Int) := by
  simp [ishr, IntKind.bits, BitVec.toNat_ushiftRight, Nat.shiftRight_eq_div_pow, Int.fdiv_eq_ediv_of_nonneg]
theorem step32 (r : B32) : ibits .xor .u32 (ishr .u32 (r.toNat : Int) 1) (ibits .and .u32 3988292384 (IntKind.u32.wrap (0 - ibits .and .u32 (r.toNat : Int) 1))) = ((csh r).toNat : Int) := by
  have e1 : (1 : Int) = (((1#32 : B32).toNat : Nat) : Int) := by decide
  have e2 : (3988292384 : Int) = ((cpoly.toNat : Nat) : Int) := by decide
  have h := ib_and r 1#32
  rw [← e1] at h
  rw [h, ib_neg, ib_shr]
  have h2 := ib_and cpoly (-(r &&& 1#32))
  rw [← e2] at h2
  rw [h2, ib_xor]
  rfl
theorem start32 (s : B32) (c : Nat) (hc : c < 256) : ibits .xor .u32 (ibits .xor .u32 (if IntKind.u32.signed then -1 else IntKind.u32.max) (s.toNat : Int)) (IntKind.u32.wrap (c : Int)) = ((~~~ s ^^^ BitVec.ofNat 32 c).toNat : Int) := by
  rw [ib_not, wrap_u32_nat c (by omega)]
  have e : ((c : Nat) : Int) = (((BitVec.ofNat 32 c).toNat : Nat) : Int) := by rw [BitVec.toNat_ofNat]; omega
  rw [e, ib_xor]
theorem b32_of {s : Int} (h : 0 ≤ s ∧ s < 4294967296) : ∃ b : B32, s = (b.toNat : Int) := ⟨BitVec.ofNat 32 s.toNat, by rw [BitVec.toNat_ofNat]; omega⟩
@[simp] theorem ofNat_toNat32 (b : B32) : BitVec.ofNat 32 ((b.toNat : Int)).toNat = b := by simp
theorem crcs_append (s : B32) (a b : List Nat) : crcs s (a ++ b) = crcs (crcs s a) b := by simp [crcs, List.foldl_append]
theorem crcs_take {s : B32} {b : List Nat} {i : Nat} (h : i < b.length) : crcs s (b.take (i + 1)) = cbyte (crcs s (b.take i)) (b.getD i 0) := by
  rw [List.take_add_one, List.getElem?_eq_getElem h, crcs_append]
  simp [crcs, List.getD, h]
end Go.Am
/- internal/bytealg.MakeNoZero: bytes that nobody knows. -/
namespace Go.Am
set_option linter.all false
set_option linter.deprecated false
section
variable {P : Program} {w : World} {I : Nat → Prop} {σ : Sig}
def vInt : Value → Int
  | .int _ n => n
  | _ => 0
def nozC : Contract := { modes := [.ro], fn := fun _ _ => none, nfn := fun args M => match args, M with
  | [.int .i64 n], [] => some ⟨[fun _ => 0 ≤ n () ∧ n () ≤ big], fun d => d.toList.length = (n ()).toNat ∧ ∀ i, i < d.toList.length → WfDs U8 0 (lk d.toList i), fun d => (.ms 0 (fun _ => 0) (fun _ => (n ()).toNat), [(0, some (.row true U8 (fun _ => d.toList)))])⟩
  | _, _ => none }
theorem digits_bytes : ∀ (n t : Nat) (acc : Array Value), (∀ v ∈ acc.toList, ∃ b : Nat, b < 256 ∧ v = .int .u8 b) → ∀ v ∈ (Extern.BytealgMakeNoZero.digits n t acc).toList, ∃ b : Nat, b < 256 ∧ v = .int .u8 b
  | 0, _, _, h => h
  | n + 1, t, acc, h => by
    rw [Extern.BytealgMakeNoZero.digits]
    refine digits_bytes n _ _ fun v hv => ?_
    simp only [Array.toList_push, List.mem_append, List.mem_singleton] at hv
    rcases hv with hv | rfl
    · exact h v hv
    · exact ⟨t % 256, Nat.mod_lt _ (by decide), rfl⟩
theorem run_noz (ps : Array TypeId) (t e : TypeId) (ht : P.underlying t = some (.slice e)) (n : Nat) (hn : n ≤ big) :
    ∃ cs : Array Value, (Extern.BytealgMakeNoZero.makeNoZero ps #[t] #[.int .i64 n]).run P w = .ok (.slice (some ⟨w.heap.size, 0, none⟩) n cs.size) (w.drew.drew.alloc (.cells cs e)) ∧ n ≤ cs.size ∧ cs.size ≤ maxLen ∧ ∀ v ∈ cs.toList, ∃ b : Nat, b < 256 ∧ v = .int .u8 b := by
  have hb : n ≤ 1099511627776 := hn
  have h1 : ¬ ((n : Int) < 0 || (n : Int) > 2 ^ 48) = true := by simp; omega
  refine ⟨Extern.BytealgMakeNoZero.digits (grownCap w n 0 e) ((Question.extern "internal/bytealg.MakeNoZero.bytes" 0).cut (w.drew.tape w.drew.drawn (.extern "internal/bytealg.MakeNoZero.bytes" 0))) #[], ?_, ?_, ?_, digits_bytes _ _ _ (by simp)⟩
  · have hdef : Extern.BytealgMakeNoZero.makeNoZero ps #[t] #[.int .i64 n] =
        (do
          let .slice elem ← underlying t | stuck "bytealg.MakeNoZero: slice type expected"
          if (n : Int) < 0 || (n : Int) > 2 ^ 48 then runtimePanic (.error "makeslice: len out of range")
          let cap ← choose (.appendCap (n : Int).toNat 0 elem)
          askRoom cap
          let bytes ← choose (.extern "internal/bytealg.MakeNoZero.bytes" 0)
          let a ← newRow elem (Extern.BytealgMakeNoZero.digits cap bytes #[])
          pure (.slice (some a) (n : Int).toNat cap) : Sem Value) := rfl
    rw [hdef]
    simp only [Sem.run_bind, run_underlying ht, Result.andThen_ok, if_neg h1, Sem.run_pure, Int.toNat_natCast]
    simp [Question.forced, newRow, grownCap, Lib.size_digits]
  · rw [Lib.size_digits]
    have := grownCap_ge w n 0 e
    simp; omega
  · rw [Lib.size_digits]
    have := grownCap_le_maxLen w n 0 e (by unfold maxLen; omega)
    simp; omega
theorem noz_ok {f : FuncId} {fn : Func} {t e : TypeId} (hf : P.funcs[f]? = some fn) (hname : (fn.name == "runtime.NumGoroutine") = false) (hb : fn.body.isNone = true) (hn : Extern.findNext fn = none) {ps : Array TypeId}
    (he : Extern.find fn = some (Extern.BytealgMakeNoZero.makeNoZero ps #[t])) (ht : P.underlying t = some (.slice e)) : CSound P f nozC := by
  refine ⟨fun args M r hr => by simp [nozC] at hr, fun args M r hr hvc => ?_⟩
  intro w I σ vs hok hfree hargs o a K Q hK
  simp only [nozC] at hr
  split at hr <;> cases hr
  rename_i n
  have hv : 0 ≤ n () ∧ n () ≤ big := hvc _ (List.mem_singleton.2 rfl)
  simp only [VRs, VR] at hargs
  obtain ⟨u, us, rfl, ⟨rfl, _⟩, rfl⟩ := hargs
  obtain ⟨m, hm⟩ := Int.eq_ofNat_of_zero_le hv.1
  obtain ⟨cs, hrun, h1, h2, h3⟩ := run_noz (P := P) (w := w) ps t e ht m (by have := hv.2; rw [hm] at this; exact Int.ofNat_le.1 this)
  have hl : (cs.toList.take m).length = m := by simp; omega
  have hrow : RowL w I U8 ((cs.toList.take m).map fun v => [D.int (vInt v)]) (cs.toList.take m) := by
    refine ⟨by simp, fun i hi => ?_⟩
    rw [List.length_map] at hi
    have hv3 := h3 (cs.toList.take m)[i] (List.mem_of_mem_take (List.getElem_mem hi))
    obtain ⟨b, hb, e1⟩ := hv3
    have e2 : ((cs.toList.take m).drop (i * 1)).take 1 = [(cs.toList.take m)[i]] := by
      rw [Nat.mul_one, List.drop_eq_getElem_cons hi]; rfl
    show DatL w I U8 0 _ (((cs.toList.take m).drop (i * 1)).take 1)
    rw [e2, e1]
    have e3 : lk ((cs.toList.take m).map fun v => [D.int (vInt v)]) i = [D.int b] := by
      simp only [lk, List.getD, List.getElem?_map, List.getElem?_eq_getElem hi, e1]
      rfl
    rw [e3]
    refine ⟨_, [], rfl, ?_, rfl⟩
    simp only [Dat, lk, List.getD, List.getElem?_cons_zero, Option.getD_some, D.toInt, true_and, u8_iff]
    omega
  have hpost := Post.alloc (key := 0) (M := []) (w := w) (I := I) (w' := w.drew.drew.alloc (.cells cs e)) (x := .cells cs e) (cap := cs.size) (sz := 1) (val := .ms 0 (fun _ => 0) (fun _ => m)) (v := .slice (some ⟨w.heap.size, 0, none⟩) m cs.size)
    (y := .row true U8 (fun _ => (cs.toList.take m).map fun v => [D.int (vInt v)])) hok (hfree 0 (Nat.le_refl _)) ⟨rfl, rfl, rfl, rfl⟩ trivial
    (row_new (w := w) (I := I) (w' := w.drew.drew.alloc (.cells cs e)) (cs0 := cs) (t := e) (fz := (0, 0)) ⟨rfl, rfl, rfl, rfl⟩ hok.lt (by decide) hrow (by simp) (fun j c hc => by
      rw [List.getElem?_take] at hc
      split at hc
      · simpa using hc
      · cases hc) (by rw [List.length_map, hl]; exact h1) h2 (by simp [unfrozen]))
    (by simp only [VR, Sig.upd_same, MsR]; exact ⟨0, cs.size, rfl, .inr (by simp), by simp, h1, h2⟩)
  obtain ⟨I', σ', g1, g2, g3, _⟩ := hpost
  have hcall : (callFunc f [Value.int .i64 (n ())].toArray).run P w = .ok (.value (.slice (some ⟨w.heap.size, 0, none⟩) m cs.size)) (w.drew.drew.alloc (.cells cs e)) := by
    rw [hm, run_callFunc_extern hf hname hb hn he, show [Value.int .i64 (m : Int)].toArray = #[.int .i64 (m : Int)] from rfl, hrun]
    rfl
  rw [hcall]
  have hmn : (n ()).toNat = m := by omega
  refine hK _ _ ⟨_, _, ⟨.list ((cs.toList.take m).map fun v => [D.int (vInt v)]), ⟨?_, ?_⟩, rfl⟩, I', σ', ?_, g2, g3⟩
  · simp only [D.toList, List.length_map, hl, hmn]
  · intro i hi
    have := hrow.2 i (by simpa [D.toList] using hi)
    obtain ⟨u, cs', _, hd, _⟩ := this
    simp only [WfDs, WfD, and_true, D.toList]
    exact hd.2
  · simp only [hmn]
    exact g1
end
end Go.Am
/- A table of types held against the program's own. -/
namespace Go.Am
set_option linter.all false
set_option linter.deprecated false
section
variable {P : Program}
def infSz (P : Program) (t sz : Nat) : Bool := match P.info? t with | some inf => Nat.beq inf.size sz | none => false
def fsOk (P : Program) : List (Nat × Nat × Nat) → List Field → Bool
  | [], _ => true
  | _ :: _, [] => false
  | (off, ft, sz) :: fs, g :: gs => Nat.beq g.offset off && Nat.beq g.type ft && infSz P ft sz && fsOk P fs gs
def tdOk (P : Program) : TD → TypeDesc → Bool
  | .int k, .int k' => decide (k' = k)
  | .bool, .bool => true
  | .str, .string => true
  | .slice el esz eb esh, .slice el' => Nat.beq el' el && Nat.beq esh.length esz && Nat.blt 0 esz && (match P.info? el with
    | some inf => Nat.beq inf.size esz && Nat.beq inf.bytes eb && (match inf.zero with | some z => Nat.beq z.cells.size esz | none => false)
    | none => false)
  | .ptr el, .pointer el' => Nat.beq el' el
  | .struct fs cmp, .struct fields => fsOk P fs fields.toList && Nat.beq fs.length fields.size && (!cmp || fields.toList.all fun g => g.name != "_")
  | .array n el esz, .array n' el' => Nat.beq n' n && Nat.beq el' el && infSz P el esz
  | .func, .func .. => true
  | .other, _ => true
  | _, _ => false
def zOk : AV → Value → Bool
  | .un, _ => true
  | .int k n, .int k' m => decide (k' = k) && decide (m = n ()) && wfB k (n ())
  | .bool b, .bool c => c == b ()
  | .str s, .string t => decide (t.data.toList = s ()) && Nat.ble t.size maxLen
  | .nils, .slice none 0 0 => true
  | .nilp, .pointer none => true
  | .nilf, .nilFunc => true
  | _, _ => false
def zsOk : List AV → List Value → Bool
  | [], [] => true
  | v :: vs, u :: us => zOk v u && zsOk vs us
  | _, _ => false
def tiOk (P : Program) (t : Nat) (i : TI) : Bool :=
  (match P.underlying t with | some d => tdOk P i.td d && (i.agg == isAggD d) | none => false) &&
  (match i.td with | .struct _ true => !(P.stoodInHeld t) && !(P.eqGuardType P.depth t) | _ => true) &&
  (match P.info? t with
    | some inf => Nat.beq inf.size i.size && (match inf.zero with | some z => Nat.beq z.cells.size i.size && zsOk i.zero z.cells.toList | none => false)
    | none => false)
def tabOk (P : Program) : TL → Bool
  | [] => true
  | (t, i) :: L => tiOk P t i && tabOk P L
theorem infSz_iff {t sz : Nat} (h : infSz P t sz = true) : ∃ inf, P.info? t = some inf ∧ inf.size = sz := by
  unfold infSz at h
  split at h
  · rename_i inf hi
    exact ⟨inf, hi, Nat.eq_of_beq_eq_true h⟩
  · cases h
theorem fsOk_iff : ∀ {fs : List (Nat × Nat × Nat)} {gs : List Field}, fsOk P fs gs = true → FsR P fs gs
  | [], _, _ => trivial
  | _ :: _, [], h => by simp [fsOk] at h
  | (off, ft, sz) :: fs, g :: gs, h => by
    simp only [fsOk, Bool.and_eq_true] at h
    exact ⟨Nat.eq_of_beq_eq_true h.1.1.1, Nat.eq_of_beq_eq_true h.1.1.2, infSz_iff h.1.2, fsOk_iff h.2⟩
theorem tdOk_iff {td : TD} {d : TypeDesc} (h : tdOk P td d = true) : TDok P td d := by
  unfold tdOk at h
  split at h <;> simp only [TDok] <;> (try (cases h; done))
  · rw [of_decide_eq_true h]
  · rename_i el esz eb esh el'
    simp only [Bool.and_eq_true] at h
    obtain ⟨⟨⟨h1, h2⟩, h3⟩, h4⟩ := h
    have h1 := Nat.eq_of_beq_eq_true h1
    subst h1
    refine ⟨rfl, Nat.eq_of_beq_eq_true h2, by rw [Nat.blt] at h3; exact Nat.le_of_ble_eq_true h3, ?_⟩
    split at h4 <;> (try (cases h4; done))
    rename_i inf hi
    simp only [Bool.and_eq_true] at h4
    obtain ⟨⟨g1, g2⟩, g3⟩ := h4
    split at g3 <;> (try (cases g3; done))
    rename_i z hz
    exact ⟨inf, z, hi, Nat.eq_of_beq_eq_true g1, Nat.eq_of_beq_eq_true g2, hz, Nat.eq_of_beq_eq_true g3⟩
  · rw [Nat.eq_of_beq_eq_true h]
  · rename_i fs cmp fields
    simp only [Bool.and_eq_true] at h
    obtain ⟨⟨h1, h2⟩, h3⟩ := h
    refine ⟨fields, rfl, fsOk_iff h1, Nat.eq_of_beq_eq_true h2, fun hc g hg => ?_⟩
    rw [hc] at h3
    simp only [Bool.not_true, Bool.false_or] at h3
    have := List.all_eq_true.1 h3 g hg
    simpa using this
  · simp only [Bool.and_eq_true] at h
    obtain ⟨⟨h1, h2⟩, h3⟩ := h
    rw [Nat.eq_of_beq_eq_true h1, Nat.eq_of_beq_eq_true h2]
    exact ⟨rfl, infSz_iff h3⟩
  · exact ⟨_, _, _, rfl⟩
theorem zOk_iff {v : AV} {u : Value} (h : zOk v u = true) (w : World) (I : Nat → Prop) (σ : Sig) : VR w I σ v u := by
  unfold zOk at h
  split at h
  · simp only [VR]
  · simp only [Bool.and_eq_true, decide_eq_true_eq] at h
    obtain ⟨⟨rfl, rfl⟩, h⟩ := h
    simp only [VR, true_and]
    exact h
  · simp only [beq_iff_eq] at h
    simp only [VR, h]
  · simp only [Bool.and_eq_true, decide_eq_true_eq] at h
    simp only [VR]
    exact ⟨_, rfl, h.1, Nat.le_of_ble_eq_true h.2⟩
  · simp only [VR]
  · simp only [VR]
  · simp only [VR]
  · cases h
theorem zsOk_iff : ∀ {vs : List AV} {us : List Value}, zsOk vs us = true → ∀ (w : World) (I : Nat → Prop) (σ : Sig), VRs w I σ vs us
  | [], [], _, _, _, _ => by simp only [VRs]
  | [], _ :: _, h, _, _, _ => by simp [zsOk] at h
  | _ :: _, [], h, _, _, _ => by simp [zsOk] at h
  | v :: vs, u :: us, h, w, I, σ => by
    simp only [zsOk, Bool.and_eq_true] at h
    simp only [VRs]
    exact ⟨u, us, rfl, zOk_iff h.1 w I σ, zsOk_iff h.2 w I σ⟩
theorem tiOk_iff {t : Nat} {i : TI} (h : tiOk P t i = true) : TIok P t i := by
  simp only [tiOk, Bool.and_eq_true] at h
  obtain ⟨⟨h1, h2⟩, h3⟩ := h
  refine ⟨?_, fun hc => ?_, ?_⟩
  · split at h1 <;> (try (cases h1; done))
    rename_i d hd
    simp only [Bool.and_eq_true, beq_iff_eq] at h1
    exact ⟨d, hd, tdOk_iff h1.1, h1.2⟩
  · split at h2
    · simpa using h2
    · rename_i hn
      split at hc
      · rename_i fs c htd
        cases c
        · cases hc
        · exact (hn fs htd).elim
      · cases hc
  · split at h3 <;> (try (cases h3; done))
    rename_i inf hi
    simp only [Bool.and_eq_true] at h3
    obtain ⟨g1, g2⟩ := h3
    split at g2 <;> (try (cases g2; done))
    rename_i z hz
    simp only [Bool.and_eq_true] at g2
    exact ⟨inf, z, hi, Nat.eq_of_beq_eq_true g1, hz, Nat.eq_of_beq_eq_true g2.1, zsOk_iff g2.2⟩
theorem tab_ok : ∀ {L : TL}, tabOk P L = true → ∀ t i, tget' L t = some i → TIok P t i
  | [], _, _, _, h => by simp [tget'] at h
  | (k, i0) :: L, hL, t, i, h => by
    simp only [tabOk, Bool.and_eq_true] at hL
    simp only [tget'] at h
    split at h
    · rename_i hb
      have hb := Nat.eq_of_beq_eq_true hb
      subst hb
      cases h
      exact tiOk_iff hL.1
    · exact tab_ok hL.2 t i h
end
end Go.Am
/- The types of this program that the walks meet. -/
namespace Go.Am
set_option linter.all false
set_option linter.deprecated false
open Go.Proofs
set_option maxRecDepth 100000
def tyL : TL := [
  (1, ⟨1, false, [.nilf], .func⟩),
  (2, ⟨1, false, [.int .i64 fun _ => 0], .int .i64⟩),
  (3, ⟨1, false, [.int .i64 fun _ => 0], .int .i64⟩),
  (4, ⟨1, false, [.bool fun _ => false], .bool⟩),
  (5, ⟨1, false, [.int .u8 fun _ => 0], .int .u8⟩),
  (6, ⟨1, false, [.int .u8 fun _ => 0], .int .u8⟩),
  (7, ⟨4, true, [.int .i64 fun _ => 0, .int .i64 fun _ => 0, .bool fun _ => false, .int .u8 fun _ => 0], .struct [(0, 2, 1), (1, 3, 1), (2, 4, 1), (3, 6, 1)] false⟩),
  (8, ⟨4, true, [.int .i64 fun _ => 0, .int .i64 fun _ => 0, .bool fun _ => false, .int .u8 fun _ => 0], .struct [(0, 2, 1), (1, 3, 1), (2, 4, 1), (3, 6, 1)] false⟩),
  (9, ⟨1, false, [.str fun _ => []], .str⟩),
  (10, ⟨1, false, [.str fun _ => []], .str⟩),
  (11, ⟨1, false, [.str fun _ => []], .str⟩),
  (12, ⟨1, false, [.int .u64 fun _ => 0], .int .u64⟩),
  (13, ⟨2, true, [.str fun _ => [], .int .u64 fun _ => 0], .struct [(0, 9, 1), (1, 12, 1)] false⟩),
  (14, ⟨2, true, [.str fun _ => [], .int .u64 fun _ => 0], .struct [(0, 9, 1), (1, 12, 1)] false⟩),
  (15, ⟨1, false, [.nilp], .ptr 153⟩),
  (16, ⟨1, false, [.nilp], .ptr 156⟩),
  (17, ⟨1, false, [.nilp], .ptr 164⟩),
  (18, ⟨1, true, [.nilp], .struct [(0, 17, 1)] false⟩),
  (19, ⟨1, true, [.nilp], .struct [(0, 17, 1)] false⟩),
  (21, ⟨1, false, [.int .i32 fun _ => 0], .int .i32⟩),
  (22, ⟨1, false, [.int .u64 fun _ => 0], .int .u64⟩),
  (23, ⟨1, false, [.nils], .slice 5 1 1 [.int .u8]⟩),
  (24, ⟨1, false, [.nilf], .func⟩),
  (25, ⟨1, false, [.nilf], .func⟩),
  (26, ⟨1, false, [.nilf], .func⟩),
  (27, ⟨1, false, [.int .i64 fun _ => 0], .int .i64⟩),
  (29, ⟨1, false, [.nilf], .func⟩),
  (30, ⟨1, false, [.nilf], .func⟩),
  (31, ⟨1, false, [.nilf], .func⟩),
  (32, ⟨1, false, [.nilf], .func⟩),
  (33, ⟨1, false, [.nilf], .func⟩),
  (34, ⟨1, false, [.nilf], .func⟩),
  (36, ⟨1, false, [.nilf], .func⟩),
  (37, ⟨1, false, [.nilf], .func⟩),
  (38, ⟨1, false, [.int .u32 fun _ => 0], .int .u32⟩),
  (39, ⟨1, false, [.nilf], .func⟩),
  (40, ⟨1, false, [.nilf], .func⟩),
  (41, ⟨1, false, [.nilf], .func⟩),
  (42, ⟨1, false, [.nilf], .func⟩),
  (43, ⟨1, false, [.nilf], .func⟩),
  (44, ⟨1, false, [.nilf], .func⟩),
  (45, ⟨1, false, [.nilf], .func⟩),
  (46, ⟨1, false, [.nils], .slice 52 5 72 [.int .i64, .int .u64, .int .i64, .slice [.int .u8], .slice [.int .u64]]⟩),
  (47, ⟨1, false, [.nilf], .func⟩),
  (48, ⟨1, true, [.nils], .struct [(0, 23, 1)] false⟩),
  (49, ⟨1, true, [.nils], .struct [(0, 23, 1)] false⟩),
  (50, ⟨1, false, [.nils], .slice 22 1 8 [.int .u64]⟩),
  (51, ⟨5, true, [.int .i64 fun _ => 0, .int .u64 fun _ => 0, .int .i64 fun _ => 0, .nils, .nils], .struct [(0, 3, 1), (1, 22, 1), (2, 3, 1), (3, 23, 1), (4, 50, 1)] false⟩),
  (52, ⟨5, true, [.int .i64 fun _ => 0, .int .u64 fun _ => 0, .int .i64 fun _ => 0, .nils, .nils], .struct [(0, 3, 1), (1, 22, 1), (2, 3, 1), (3, 23, 1), (4, 50, 1)] false⟩),
  (53, ⟨1, false, [.nilf], .func⟩),
  (54, ⟨1, false, [.nilf], .func⟩),
  (55, ⟨1, false, [.nilf], .func⟩),
  (56, ⟨1, false, [.nilf], .func⟩),
  (57, ⟨1, false, [.nilf], .func⟩),
  (58, ⟨1, false, [.nils], .slice 23 1 24 [.slice [.int .u8]]⟩),
  (60, ⟨1, false, [.nilf], .func⟩),
  (61, ⟨2, true, [.int .u32 fun _ => 0, .int .i64 fun _ => 0], .struct [(0, 38, 1), (1, 3, 1)] false⟩),
  (62, ⟨2, true, [.int .u32 fun _ => 0, .int .i64 fun _ => 0], .struct [(0, 38, 1), (1, 3, 1)] false⟩),
  (63, ⟨2, true, [.int .u32 fun _ => 0, .int .i64 fun _ => 0], .struct [(0, 62, 2)] false⟩),
  (64, ⟨2, true, [.int .u32 fun _ => 0, .int .i64 fun _ => 0], .struct [(0, 62, 2)] false⟩),
  (65, ⟨1, false, [.nilp], .ptr 64⟩),
  (66, ⟨1, false, [.nilf], .func⟩),
  (67, ⟨1, false, [.nilf], .func⟩),
  (68, ⟨1, false, [.nilf], .func⟩),
  (69, ⟨1, false, [.nilf], .func⟩),
  (70, ⟨1, false, [.nilp], .ptr 134⟩),
  (71, ⟨1, false, [.nilf], .func⟩),
  (72, ⟨3, true, [.str fun _ => [], .int .i64 fun _ => 0, .int .i64 fun _ => 0], .struct [(0, 9, 1), (1, 3, 1), (2, 27, 1)] false⟩),
  (73, ⟨3, true, [.str fun _ => [], .int .i64 fun _ => 0, .int .i64 fun _ => 0], .struct [(0, 9, 1), (1, 3, 1), (2, 27, 1)] false⟩),
  (75, ⟨1, false, [.nilf], .func⟩),
  (76, ⟨1, false, [.nilf], .func⟩),
  (78, ⟨1, false, [.nilf], .func⟩),
  (79, ⟨1, false, [.nilf], .func⟩),
  (80, ⟨1, false, [.nilf], .func⟩),
  (82, ⟨1, false, [.nilf], .func⟩),
  (83, ⟨1, false, [.nilf], .func⟩),
  (84, ⟨1, false, [.nilf], .func⟩),
  (85, ⟨1, false, [.nilf], .func⟩),
  (86, ⟨1, false, [.nilp], .ptr 49⟩),
  (87, ⟨1, false, [.nilf], .func⟩),
  (88, ⟨1, false, [.nils], .slice 137 4 40 [.int .u8, .str, .int .i64, .int .i64]⟩),
  (89, ⟨1, false, [.int .i64 fun _ => 0], .int .i64⟩),
  (91, ⟨1, false, [.nilf], .func⟩),
  (92, ⟨1, false, [.nilf], .func⟩),
  (93, ⟨1, false, [.nilf], .func⟩),
  (94, ⟨1, false, [.nilf], .func⟩),
  (95, ⟨2, true, [.int .u8 fun _ => 0, .nils], .struct [(0, 5, 1), (1, 23, 1)] false⟩),
  (96, ⟨2, true, [.int .u8 fun _ => 0, .nils], .struct [(0, 5, 1), (1, 23, 1)] false⟩),
  (98, ⟨1, false, [.nilf], .func⟩),
  (99, ⟨2, true, [.int .u8 fun _ => 0, .str fun _ => []], .struct [(0, 5, 1), (1, 9, 1)] false⟩),
  (100, ⟨2, true, [.int .u8 fun _ => 0, .str fun _ => []], .struct [(0, 5, 1), (1, 9, 1)] true⟩),
  (102, ⟨1, false, [.nilf], .func⟩),
  (103, ⟨1, false, [.nilf], .func⟩),
  (104, ⟨1, false, [.nils], .slice 120 4 48 [.int .u8, .slice [.int .u8], .int .i64, .int .i64]⟩),
  (106, ⟨1, false, [.nilf], .func⟩),
  (107, ⟨1, false, [.nilf], .func⟩),
  (108, ⟨1, false, [.nilf], .func⟩),
  (109, ⟨1, false, [.nilf], .func⟩),
  (110, ⟨1, false, [.nils], .slice 96 2 32 [.int .u8, .slice [.int .u8]]⟩),
  (111, ⟨1, false, [.nilf], .func⟩),
  (112, ⟨1, false, [.nils], .slice 100 2 24 [.int .u8, .str]⟩),
  (113, ⟨1, false, [.nilf], .func⟩),
  (114, ⟨1, false, [.nilf], .func⟩),
  (115, ⟨1, false, [.nilf], .func⟩),
  (116, ⟨1, false, [.nilf], .func⟩),
  (117, ⟨1, false, [.nilf], .func⟩),
  (118, ⟨4, true, [.int .u8 fun _ => 0, .int .u8 fun _ => 0, .int .u8 fun _ => 0, .int .u8 fun _ => 0], .array 4 5 1⟩),
  (119, ⟨4, true, [.int .u8 fun _ => 0, .nils, .int .i64 fun _ => 0, .int .i64 fun _ => 0], .struct [(0, 96, 2), (2, 3, 1), (3, 3, 1)] false⟩),
  (120, ⟨4, true, [.int .u8 fun _ => 0, .nils, .int .i64 fun _ => 0, .int .i64 fun _ => 0], .struct [(0, 96, 2), (2, 3, 1), (3, 3, 1)] false⟩),
  (121, ⟨1, false, [.nilf], .func⟩),
  (122, ⟨1, false, [.nils], .slice 3 1 8 [.int .i64]⟩),
  (123, ⟨1, false, [.int .u64 fun _ => 0], .int .u64⟩),
  (124, ⟨1, false, [.nilf], .func⟩),
  (125, ⟨1, false, [.nilf], .func⟩),
  (126, ⟨1, false, [.nils], .slice 4 1 1 [.bool]⟩),
  (127, ⟨1, false, [.nilf], .func⟩),
  (128, ⟨1, false, [.nilf], .func⟩),
  (129, ⟨1, false, [.nilf], .func⟩),
  (130, ⟨1, false, [.nilf], .func⟩),
  (131, ⟨2, true, [.int .i64 fun _ => 0, .int .i64 fun _ => 0], .struct [(0, 3, 1), (1, 27, 1)] false⟩),
  (132, ⟨2, true, [.int .i64 fun _ => 0, .int .i64 fun _ => 0], .struct [(0, 3, 1), (1, 27, 1)] false⟩),
  (133, ⟨3, true, [.int .i64 fun _ => 0, .int .i64 fun _ => 0, .nils], .struct [(0, 132, 2), (2, 23, 1)] false⟩),
  (134, ⟨3, true, [.int .i64 fun _ => 0, .int .i64 fun _ => 0, .nils], .struct [(0, 132, 2), (2, 23, 1)] false⟩),
  (135, ⟨1, false, [.nilf], .func⟩),
  (136, ⟨4, true, [.int .u8 fun _ => 0, .str fun _ => [], .int .i64 fun _ => 0, .int .i64 fun _ => 0], .struct [(0, 100, 2), (2, 3, 1), (3, 3, 1)] true⟩),
  (137, ⟨4, true, [.int .u8 fun _ => 0, .str fun _ => [], .int .i64 fun _ => 0, .int .i64 fun _ => 0], .struct [(0, 100, 2), (2, 3, 1), (3, 3, 1)] true⟩),
  (138, ⟨1, false, [.nilf], .func⟩),
  (139, ⟨1, false, [.nilp], .ptr 143⟩),
  (140, ⟨1, true, [.int .i64 fun _ => 0], .struct [(0, 3, 1)] false⟩),
  (141, ⟨1, true, [.int .i64 fun _ => 0], .struct [(0, 3, 1)] false⟩),
  (142, ⟨2, true, [.int .i64 fun _ => 0, .nils], .struct [(0, 141, 1), (1, 23, 1)] false⟩),
  (143, ⟨2, true, [.int .i64 fun _ => 0, .nils], .struct [(0, 141, 1), (1, 23, 1)] false⟩),
  (145, ⟨1, false, [.nilf], .func⟩),
  (146, ⟨1, false, [.nilf], .func⟩),
  (147, ⟨1, false, [.nilp], .ptr 62⟩),
  (148, ⟨1, false, [.nilp], .ptr 132⟩),
  (149, ⟨1, false, [.nilf], .func⟩)]
theorem tyL_ok : tabOk Try.prog tyL = true := by kernel_rfl
def Ty : TT := fun t => tget' tyL t
theorem tyT : ∀ t i, Ty t = some i → TIok Try.prog t i := tab_ok tyL_ok
theorem mixed : Try.prog.follows .mixedOrders = true := by kernel_rfl
end Go.Am
/- alibi/varint.Put keeps its contract. -/
namespace Go.Am
set_option linter.all false
set_option linter.deprecated false
open Go.Proofs
set_option maxRecDepth 100000
def put1 : Nat → Nat → List Nat
  | 0, v => [v]
  | f + 1, v => if v < 128 then [v] else (v % 128 + 128) :: put1 f (v / 128)
def putB (v : Nat) : List Nat := put1 9 v
def putC : Contract := { modes := [.ro], fn := fun args M => match args, M with
  | [.int .u64 v], [] => some ⟨[], .ms 0 (fun _ => 0) (fun _ => (putB (v ()).toNat).length), [(0, some (.row false U8 fun _ => rowB (putB (v ()).toNat)))]⟩
  | _, _ => none }
structure PI (v : Nat) where
  bs : List Nat
  u : Nat
  f : Nat
  h : bs ++ put1 f u = put1 9 v
  hu : u < 128 ^ (f + 1)
  hf : bs.length + f = 9
def G0 : Ctx := fun f => gget [] f
theorem or128 (u : Nat) : ibits .or .u8 (IntKind.u8.wrap (u : Int)) 128 = ((u % 128 + 128 : Nat) : Int) := by
  rw [wrap_u8_mod]
  have e : ((u : Int) % 256) = ((u % 256 : Nat) : Int) := by omega
  rw [e]
  simp only [ibits, wrap_u8_mod, IntKind.bits]
  have h1 : u % 256 < 256 := by omega
  have : ∀ x : Nat, x < 256 → ((BitVec.ofInt 8 (x : Int) ||| BitVec.ofInt 8 128).toNat : Int) % 256 = ((x % 128 + 128 : Nat) : Int) := by decide
  exact (this _ h1).trans (by omega)
theorem shr7 (u : Nat) : ishr .u64 (u : Int) 7 = ((u / 128 : Nat) : Int) := by
  simp [ishr, IntKind.bits, Int.fdiv_eq_ediv_of_nonneg]
theorem put_ok : CSound Try.prog 19 putC := by
  refine fsound' (G := G0) (c := codeOf Try.f19) mixed tyT (gget_nil _) Try.func19 (by rfl) (by kernel_rfl) (by kernel_rfl) fun args M r hr hvc hw hm => ?_
  unfold putC at hr
  simp only at hr
  split at hr <;> cases hr
  rename_i v
  obtain ⟨n, rfl⟩ : ∃ n, v = fun _ => n := ⟨v (), rfl⟩
  clear hvc hm
  simp only [WfVs, WfV, and_true, u64_iff] at hw
  obtain ⟨n, rfl⟩ := Int.eq_ofNat_of_zero_le hw.1
  have hn : n < 18446744073709551616 := by omega
  cbv
  refine LoopP.mk (PI n) (fun x => ⟨finit 18 [.int .u64 fun _ => x.u, .un, .ms 0 (fun _ => 0) (fun _ => x.bs.length)], [(0, .row false [.int .u8] (fun _ => rowB x.bs))], 8⟩) (fun x => x.u) ⟨[], n, 9, rfl, by omega, rfl⟩ ?_ ?_
  · cbv
    exact ⟨⟨rfl⟩, ⟨rfl, rfl⟩, ⟨rfl⟩⟩
  · intro ⟨bs, u, f, h1, hu, hf⟩
    cbv
    refine Split.mk (fun h => ?_) (fun h => ?_)
    · cbv
      simp only [zc1] at h
      simp only [zc2] at h
      have h : 128 ≤ u := by simp at h; omega
      cases f with
      | zero => omega
      | succ f =>
      rw [put1, if_neg (by omega)] at h1
      refine ⟨⟨rfl⟩, ⟨by simp⟩, ⟨by simp [chunk, big]; omega⟩, ⟨by simp [chunk]⟩, ⟨by decide⟩, ⟨bs ++ [u % 128 + 128], u / 128, f, ?_, ?_, ?_⟩, ?_, ?_⟩
      · rw [← h1]; simp
      · rw [Nat.pow_succ] at hu; omega
      · simp; omega
      · simp only; omega
      · cbv
        refine ⟨⟨?_⟩, ⟨?_, ?_⟩, ⟨?_⟩⟩
        · exact shr7 u
        · rfl
        · simp [chunk]
        · simp [chunk, or128, rowB_append, rowB_one]
    · cbv
      simp only [zc1] at h
      simp only [zc2] at h
      have h : u < 128 := by simp at h; omega
      have e : putB n = bs ++ [u] := by
        rw [putB, ← h1]
        cases f with
        | zero => rfl
        | succ f => rw [put1, if_pos (by omega)]
      have e2 : IntKind.u8.wrap (u : Int) = u := by rw [wrap_u8_mod]; omega
      simp [Hold.iff, chunk, e, e2, rowB_append, rowB_one, big]
      omega
end Go.Am
/- alibikit.Own, alibikit.SameBytes, slices.Equal keep their contracts. -/
namespace Go.Am
set_option linter.all false
set_option linter.deprecated false
open Go.Proofs
set_option maxRecDepth 100000
def ownC : Contract := { modes := [.ro], fn := fun args M => match args, M with
  | [.sl _ [.int .u8] xs], [] => some ⟨[fun _ => (xs ()).length ≤ big], .ms 0 (fun _ => 0) (fun _ => (xs ()).length), [(0, some (.row false U8 fun _ => xs ()))]⟩
  | _, _ => none }
theorem own_ok : CSound Try.prog 20 ownC := by
  refine fsound' (G := G0) (c := codeOf Try.f20) mixed tyT (gget_nil _) Try.func20 (by rfl) (by kernel_rfl) (by kernel_rfl) fun args M r hr hvc hw hm => ?_
  unfold ownC at hr
  simp only at hr
  split at hr <;> cases hr
  rename_i nn xs
  obtain ⟨x, rfl⟩ : ∃ x, xs = fun _ => x := ⟨xs (), rfl⟩
  have hb := hvc _ (List.mem_singleton.2 rfl)
  clear hvc hm
  cbv
  exact ⟨⟨hb⟩, ⟨rfl, rfl⟩, ⟨rfl⟩⟩
def sameC : Contract := { modes := [.ro, .ro], fn := fun args M => match args, M with
  | [.sl _ [.int .u8] xs, .sl _ [.int .u8] ys], [] => some ⟨[], .bool (fun _ => bn (xs ()) == bn (ys ())), []⟩
  | _, _ => none }
structure SameI (a b : List Nat) where
  i : Nat
  hi : i ≤ a.length
  h : a.take i = b.take i
theorem ne_len {x y : List (List D)} (h : x.length ≠ y.length) : (bn x == bn y) = false := by
  rw [beq_eq_false_iff_ne]
  intro e
  have := congrArg List.length e
  simp at this
  exact h this
theorem take_next {a b : List Nat} {i : Nat} (ha : i < a.length) (hb : i < b.length) (h : a.take i = b.take i) (he : a.getD i 0 = b.getD i 0) : a.take (i + 1) = b.take (i + 1) := by
  rw [List.take_add_one, List.take_add_one, h]
  simp only [List.getD, List.getElem?_eq_getElem ha, List.getElem?_eq_getElem hb, Option.getD_some] at he
  rw [List.getElem?_eq_getElem ha, List.getElem?_eq_getElem hb, he]
theorem take_all {a b : List Nat} {i : Nat} (h : a.take i = b.take i) (ha : a.length ≤ i) (hb : b.length ≤ i) : a = b := by
  rwa [List.take_of_length_le ha, List.take_of_length_le hb] at h
theorem take_ne {a b : List Nat} {i : Nat} (he : a.getD i 0 ≠ b.getD i 0) : a ≠ b := fun e => he (by rw [e])
theorem same_ok : CSound Try.prog 22 sameC := by
  refine fsound' (G := G0) (c := codeOf Try.f22) mixed tyT (gget_nil _) Try.func22 (by rfl) (by kernel_rfl) (by kernel_rfl) fun args M r hr hvc hw hm => ?_
  unfold sameC at hr
  simp only at hr
  split at hr <;> cases hr
  rename_i xs _ ys
  obtain ⟨x, rfl⟩ : ∃ x, xs = fun _ => x := ⟨xs (), rfl⟩
  obtain ⟨y, rfl⟩ : ∃ x, ys = fun _ => x := ⟨ys (), rfl⟩
  clear hvc hm
  simp only [WfVs, WfV, and_true] at hw
  have hx := hw.1.1
  cbv
  refine Split.mk (fun h => ?_) (fun h => ?_)
  · cbv
    refine ⟨(ne_len fun e => ?_).symm⟩
    simp [e] at h
  · cbv
    have h : (x.length : Int) = y.length := ne_f h
    have hl : x.length = y.length := by omega
    refine LoopP.mk (SameI (bn x) (bn y)) (fun s => ⟨finit 26 [.sl false U8 fun _ => x, .sl false U8 fun _ => y, .un, .un, .bool fun _ => false, .int .i64 fun _ => s.i], [], 16⟩) (fun s => x.length - s.i) ⟨0, by omega, rfl⟩ ?_ ?_
    · cbv
      exact ⟨⟨rfl⟩, ⟨rfl⟩, ⟨rfl⟩, ⟨rfl⟩⟩
    · intro ⟨i, hi, he⟩
      rw [bn_len] at hi
      cbv
      refine Split.mk (fun h => ?_) (fun h => ?_)
      · cbv
        have h : i < x.length := by simp at h; omega
        refine ⟨⟨by simp; omega⟩, ⟨by simp; omega⟩, Split.mk (fun h2 => ?_) (fun h2 => ?_)⟩
        · cbv
          simp only [Int.toNat_natCast, bn_at hw.1 h, bn_at hw.2 (hl ▸ h)] at h2
          refine ⟨?_⟩
          symm
          rw [beq_eq_false_iff_ne]
          show bn x ≠ bn y
          have h2 : (((bn x).getD i 0 : Nat) : Int) ≠ ((bn y).getD i 0 : Nat) := ne_t h2
          exact take_ne (i := i) (by omega)
        · cbv
          simp only [Int.toNat_natCast, bn_at hw.1 h, bn_at hw.2 (hl ▸ h)] at h2
          have h2 : (((bn x).getD i 0 : Nat) : Int) = ((bn y).getD i 0 : Nat) := ne_f h2
          refine ⟨⟨i + 1, by simp; omega, take_next (by simp; omega) (by simp; omega) he (by omega)⟩, by simp only; omega, ?_⟩
          cbv
          refine ⟨⟨rfl⟩, ⟨rfl⟩, ⟨rfl⟩, ⟨?_⟩⟩
          exact wrap_i64 (n := (i : Int) + 1) (by omega)
      · cbv
        have h : ¬ i < x.length := by simp at h; omega
        refine ⟨?_⟩
        symm
        rw [beq_iff_eq]
        exact take_all he (by simp; omega) (by simp; omega)
theorem equal_ok : CSound Try.prog 73 sameC := by
  refine fsound' (G := G0) (c := codeOf Try.f73) mixed tyT (gget_nil _) Try.func73 (by rfl) (by kernel_rfl) (by kernel_rfl) fun args M r hr hvc hw hm => ?_
  unfold sameC at hr
  simp only at hr
  split at hr <;> cases hr
  rename_i xs _ ys
  obtain ⟨x, rfl⟩ : ∃ x, xs = fun _ => x := ⟨xs (), rfl⟩
  obtain ⟨y, rfl⟩ : ∃ x, ys = fun _ => x := ⟨ys (), rfl⟩
  clear hvc hm
  simp only [WfVs, WfV, and_true] at hw
  have hx := hw.1.1
  cbv
  refine Split.mk (fun h => ?_) (fun h => ?_)
  · cbv
    refine ⟨(ne_len fun e => ?_).symm⟩
    simp [e] at h
  · cbv
    have h : (x.length : Int) = y.length := ne_f h
    have hl : x.length = y.length := by omega
    refine LoopP.mk (SameI (bn x) (bn y)) (fun s => ⟨finit 26 [.sl false U8 fun _ => x, .sl false U8 fun _ => y, .un, .un, .bool fun _ => false, .un, .un, .un, .un, .un, .un, .un, .int .i64 fun _ => x.length, .int .i64 fun _ => s.i], [], 16⟩) (fun s => x.length - s.i) ⟨0, by omega, rfl⟩ ?_ ?_
    · cbv
      exact ⟨⟨rfl⟩, ⟨rfl⟩, ⟨rfl⟩, ⟨rfl⟩, ⟨rfl⟩⟩
    · intro ⟨i, hi, he⟩
      rw [bn_len] at hi
      cbv
      refine Split.mk (fun h => ?_) (fun h => ?_)
      · cbv
        have h : i < x.length := by simp at h; omega
        refine ⟨⟨by simp; omega⟩, ⟨by simp; omega⟩, Split.mk (fun h2 => ?_) (fun h2 => ?_)⟩
        · cbv
          simp only [Int.toNat_natCast, bn_at hw.1 h, bn_at hw.2 (hl ▸ h)] at h2
          refine ⟨?_⟩
          symm
          rw [beq_eq_false_iff_ne]
          show bn x ≠ bn y
          have h2 : (((bn x).getD i 0 : Nat) : Int) ≠ ((bn y).getD i 0 : Nat) := ne_t h2
          exact take_ne (i := i) (by omega)
        · cbv
          simp only [Int.toNat_natCast, bn_at hw.1 h, bn_at hw.2 (hl ▸ h)] at h2
          have h2 : (((bn x).getD i 0 : Nat) : Int) = ((bn y).getD i 0 : Nat) := ne_f h2
          refine ⟨⟨i + 1, by simp; omega, take_next (by simp; omega) (by simp; omega) he (by omega)⟩, by simp only; omega, ?_⟩
          cbv
          refine ⟨⟨rfl⟩, ⟨rfl⟩, ⟨rfl⟩, ⟨rfl⟩, ⟨?_⟩⟩
          exact wrap_i64 (n := (i : Int) + 1) (by omega)
      · cbv
        have h : ¬ i < x.length := by simp at h; omega
        refine ⟨?_⟩
        symm
        rw [beq_iff_eq]
        exact take_all he (by simp; omega) (by simp; omega)
end Go.Am
/- alibi/varint.Size, the search for the last byte: they keep their contracts. -/
namespace Go.Am
set_option linter.all false
set_option linter.deprecated false
open Go.Proofs
set_option maxRecDepth 100000
def lowC : Contract := { modes := [.ro], fn := fun args M => match args, M with
  | [.int .u8 n], [] => some ⟨[], .bool (fun _ => decide (n () < 128)), []⟩
  | _, _ => none }
theorem low_ok : CSound Try.prog 72 lowC := by
  refine fsound' (G := G0) (c := codeOf Try.f72) mixed tyT (gget_nil _) Try.func72 (by rfl) (by kernel_rfl) (by kernel_rfl) fun args M r hr hvc hw hm => ?_
  unfold lowC at hr
  simp only at hr
  split at hr <;> cases hr
  cbv
  exact ⟨rfl⟩
def idx (b : List Nat) : Option Nat := b.findIdx? fun x => decide (x < 128)
def oi : Option Nat → Int
  | some i => i
  | none => -1
def idxC : Contract := { modes := [.ro, .ro], fn := fun args M => match args, M with
  | [.sl _ [.int .u8] xs, .fn 72 []], [] => some ⟨[], .int .i64 (fun _ => oi (idx (bn (xs ())))), []⟩
  | _, _ => none }
def L1 : List (Nat × Contract) := [(72, lowC)]
def G1 : Ctx := fun f => gget L1 f
theorem G1_ok : ∀ f C, G1 f = some C → CSound Try.prog f C := gget_cons low_ok (gget_nil _)
structure IdxI (b : List Nat) where
  i : Nat
  hi : i ≤ b.length
  h : ∀ j, j < i → 128 ≤ b.getD j 0
theorem idx_none {b : List Nat} (h : ∀ j, j < b.length → 128 ≤ b.getD j 0) : idx b = none := by
  rw [idx, List.findIdx?_eq_none_iff]
  intro x hx
  obtain ⟨i, hi, rfl⟩ := List.getElem_of_mem hx
  have := h i hi
  simp [List.getD, hi] at this ⊢
  omega
theorem idx_some {b : List Nat} {i : Nat} (hi : i < b.length) (h : ∀ j, j < i → 128 ≤ b.getD j 0) (hl : b.getD i 0 < 128) : idx b = some i := by
  rw [idx, List.findIdx?_eq_some_iff_getElem]
  refine ⟨hi, ?_, fun j hj => ?_⟩
  · simp [List.getD, hi] at hl ⊢
    exact hl
  · have := h j hj
    have hjl : j < b.length := by omega
    simp [List.getD, hjl] at this ⊢
    omega
theorem idx_ok : CSound Try.prog 71 idxC := by
  refine fsound' (G := G1) (c := codeOf Try.f71) mixed tyT G1_ok Try.func71 (by rfl) (by kernel_rfl) (by kernel_rfl) fun args M r hr hvc hw hm => ?_
  unfold idxC at hr
  simp only at hr
  split at hr <;> cases hr
  rename_i xs
  obtain ⟨x, rfl⟩ : ∃ x, xs = fun _ => x := ⟨xs (), rfl⟩
  clear hvc hm
  simp only [WfVs, WfV, and_true] at hw
  have hx := hw.1
  cbv
  refine LoopP.mk (IdxI (bn x)) (fun s => ⟨finit 19 [.sl false U8 fun _ => x, .fn 72 [], .un, .un, .int .i64 fun _ => 0, .un, .un, .int .i64 fun _ => x.length, .int .i64 fun _ => s.i], [], 16⟩) (fun s => x.length - s.i) ⟨0, by omega, fun _ h => by omega⟩ ?_ ?_
  · cbv
    exact ⟨⟨rfl⟩, ⟨rfl⟩, ⟨rfl⟩, ⟨rfl⟩⟩
  · intro ⟨i, hi, he⟩
    rw [bn_len] at hi
    cbv
    refine Split.mk (fun h => ?_) (fun h => ?_)
    · cbv
      have h : (i : Int) < x.length := of_decide_eq_true h
      have h : i < x.length := by omega
      refine ⟨⟨by simp; omega⟩, Split.mk (fun h2 => ?_) (fun h2 => ?_)⟩
      · cbv
        simp only [Int.toNat_natCast, bn_at hw h] at h2
        have h2 : (((bn x).getD i 0 : Nat) : Int) < 128 := of_decide_eq_true h2
        refine ⟨?_⟩
        show (i : Int) = oi (idx (bn x))
        rw [idx_some (by simpa using h) he (by omega)]
        rfl
      · cbv
        simp only [Int.toNat_natCast, bn_at hw h] at h2
        have h2 : ¬ (((bn x).getD i 0 : Nat) : Int) < 128 := of_decide_eq_false h2
        refine ⟨⟨i + 1, by simp; omega, fun j hj => ?_⟩, by simp only; omega, ?_⟩
        · by_cases hji : j = i
          · subst hji; omega
          · exact he j (by omega)
        · cbv
          refine ⟨⟨rfl⟩, ⟨rfl⟩, ⟨rfl⟩, ⟨?_⟩⟩
          exact wrap_i64 (n := (i : Int) + 1) (by omega)
    · cbv
      have h : ¬ (i : Int) < x.length := of_decide_eq_false h
      refine ⟨?_⟩
      show (-1 : Int) = oi (idx (bn x))
      rw [idx_none fun j hj => he j (by simp at hj; omega)]
      rfl
def sizeC : Contract := { modes := [.ro], fn := fun args M => match args, M with
  | [.int .u64 v], [] => some ⟨[], .int .i64 (fun _ => ((putB (v ()).toNat).length : Int)), []⟩
  | _, _ => none }
structure SzI (v : Nat) where
  n : Nat
  u : Nat
  f : Nat
  h : n + (put1 f u).length = (put1 9 v).length + 1
  hu : u < 128 ^ (f + 1)
  hf : n + f = 10
theorem size_ok : CSound Try.prog 24 sizeC := by
  refine fsound' (G := G0) (c := codeOf Try.f24) mixed tyT (gget_nil _) Try.func24 (by rfl) (by kernel_rfl) (by kernel_rfl) fun args M r hr hvc hw hm => ?_
  unfold sizeC at hr
  simp only at hr
  split at hr <;> cases hr
  rename_i v
  obtain ⟨n, rfl⟩ : ∃ n, v = fun _ => n := ⟨v (), rfl⟩
  clear hvc hm
  simp only [WfVs, WfV, and_true, u64_iff] at hw
  obtain ⟨n, rfl⟩ := Int.eq_ofNat_of_zero_le hw.1
  have hn : n < 18446744073709551616 := by omega
  cbv
  refine LoopP.mk (SzI n) (fun x => ⟨finit 11 [.int .u64 fun _ => x.u, .un, .un, .int .i64 fun _ => x.n], [], 16⟩) (fun x => x.u) ⟨1, n, 9, Nat.add_comm _ _, by omega, rfl⟩ ?_ ?_
  · cbv
    exact ⟨⟨rfl⟩, ⟨rfl⟩⟩
  · intro ⟨k, u, f, h1, hu, hf⟩
    cbv
    refine Split.mk (fun h => ?_) (fun h => ?_)
    · cbv
      have h : (128 : Int) ≤ u := of_decide_eq_true h
      cases f with
      | zero => omega
      | succ f =>
      rw [put1, if_neg (by omega)] at h1
      rw [Nat.pow_succ] at hu
      refine ⟨⟨by decide⟩, ⟨k + 1, u / 128, f, ?_, by omega, by omega⟩, by simp only; omega, ?_⟩
      · simp at h1 ⊢; omega
      · cbv
        refine ⟨⟨shr7 u⟩, ⟨?_⟩⟩
        exact wrap_i64 (n := (k : Int) + 1) (by omega)
    · cbv
      have h : ¬ (128 : Int) ≤ u := of_decide_eq_false h
      have e : (put1 f u).length = 1 := by
        cases f with
        | zero => rfl
        | succ f => rw [put1, if_pos (by omega)]; rfl
      refine ⟨?_⟩
      show (k : Int) = ((putB n).length : Int)
      rw [putB]; omega
end Go.Am
/- alibi/varint.Get keeps its contract. -/
namespace Go.Am
set_option linter.all false
set_option linter.deprecated false
open Go.Proofs
set_option maxRecDepth 100000
set_option maxHeartbeats 4000000
/-- the number that seven bits a byte make, the last byte the highest -/
def valN : List Nat → Nat
  | [] => 0
  | x :: xs => valN xs * 128 % 18446744073709551616 + x % 128
def getS (b : List Nat) (at_ : Int) : Nat × Int × Int :=
  if at_ < 0 ∨ (b.length : Int) < at_ then (0, 0, 2) else
  let c := (b.drop at_.toNat).take 10
  match idx c with
  | none => if c.length = 10 then (0, 0, 10) else (0, 0, 4)
  | some n =>
    let v := valN (c.take (n + 1))
    if putB v = c.take (n + 1) then (v, at_ + n + 1, 0) else (0, 0, 10)
def getC : Contract := { modes := [.ro, .ro], fn := fun args M => match args, M with
  | [.sl _ [.int .u8] xs, .int .i64 a], [] => some ⟨[], .tup [.int .u64 (fun _ => ((getS (bn (xs ())) (a ())).1 : Int)), .int .i64 (fun _ => (getS (bn (xs ())) (a ())).2.1), .int .i64 (fun _ => (getS (bn (xs ())) (a ())).2.2)], []⟩
  | _, _ => none }
def L2 : List (Nat × Contract) := [(19, putC), (71, idxC), (73, sameC)]
def G2 : Ctx := fun f => gget L2 f
theorem G2_ok : ∀ f C, G2 f = some C → CSound Try.prog f C := gget_cons put_ok (gget_cons idx_ok (gget_cons equal_ok (gget_nil _)))
theorem valN_lt : ∀ (b : List Nat), valN b < 18446744073709551616
  | [] => by simp [valN]
  | x :: xs => by simp only [valN]; omega
theorem idx_lt {b : List Nat} {n : Nat} (h : idx b = some n) : n < b.length := by
  rw [idx, List.findIdx?_eq_some_iff_getElem] at h
  exact h.1
theorem and127 (b : Nat) (h : b < 256) : ibits .and .u8 (b : Int) 127 = ((b % 128 : Nat) : Int) := by
  simp only [ibits, wrap_u8_mod, IntKind.bits]
  have : ∀ x : Nat, x < 256 → ((BitVec.ofInt 8 (x : Int) &&& BitVec.ofInt 8 127).toNat : Int) % 256 = ((x % 128 : Nat) : Int) := by decide
  exact this b h
theorem or64 (q r : Nat) (h : 128 * q < 18446744073709551616) (hr : r < 128) : ibits .or .u64 ((128 * q : Nat) : Int) (r : Int) = ((128 * q + r : Nat) : Int) := by
  simp only [ibits, wrap_u64_mod, IntKind.bits]
  have e : (BitVec.ofInt 64 ((128 * q : Nat) : Int) ||| BitVec.ofInt 64 (r : Int)).toNat = 128 * q + r := by
    rw [BitVec.toNat_or, BitVec.toNat_ofInt, BitVec.toNat_ofInt]
    have e1 : (((128 * q : Nat) : Int) % (2 ^ 64 : Nat)).toNat = 128 * q := by omega
    have e2 : ((r : Int) % (2 ^ 64 : Nat)).toNat = r := by omega
    rw [e1, e2]
    exact (Nat.two_pow_add_eq_or_of_lt (i := 7) hr q).symm
  show ((BitVec.ofInt 64 ((128 * q : Nat) : Int) ||| BitVec.ofInt 64 (r : Int)).toNat : Int) % _ = _
  rw [e]
  omega
theorem step7 (v b : Nat) (hv : v < 18446744073709551616) (hb : b < 256) :
    ibits .or .u64 (ishl .u64 (v : Int) 7) (IntKind.u64.wrap (ibits .and .u8 (b : Int) 127)) = ((v * 128 % 18446744073709551616 + b % 128 : Nat) : Int) := by
  rw [and127 b hb]
  have e1 : ishl .u64 (v : Int) 7 = ((128 * (v % 144115188075855872) : Nat) : Int) := by
    simp only [ishl, wrap_u64_mod, IntKind.bits]
    have : min (Int.toNat 7) 64 = 7 := by decide
    rw [this]
    omega
  rw [e1, wrap_u64 (by omega), or64 _ _ (by omega) (by omega)]
  omega
structure GetI (c : List Nat) (n : Nat) where
  i : Nat      -- one more than the index
  v : Nat
  hi : i ≤ n + 1
  h : v = valN ((c.take (n + 1)).drop i)
theorem get_ok : CSound Try.prog 21 getC := by
  refine fsound' (G := G2) (c := codeOf Try.f21) mixed tyT G2_ok Try.func21 (by rfl) (by kernel_rfl) (by kernel_rfl) fun args M r hr hvc hw hm => ?_
  unfold getC at hr
  simp only at hr
  split at hr <;> cases hr
  rename_i xs a
  obtain ⟨x, rfl⟩ : ∃ x, xs = fun _ => x := ⟨xs (), rfl⟩
  obtain ⟨a, rfl⟩ : ∃ x, a = fun _ => x := ⟨a (), rfl⟩
  clear hvc hm
  simp only [WfVs, WfV, and_true, i64_iff] at hw
  have hx := hw.1.1
  obtain ⟨c, hc⟩ : ∃ c, c = (x.drop a.toNat).take 10 := ⟨_, rfl⟩
  cbv
  refine Split.mk (fun h => ?_) (fun h => ?_)
  · have h : a < 0 := of_decide_eq_true h
    cbv
    refine .yes ?_
    cbv
    have e : getS (bn x) a = (0, 0, 2) := by rw [getS, if_pos (.inl h)]
    simp only [Hold.iff, e]
    decide
  · have h : ¬ a < 0 := of_decide_eq_false h
    cbv
    refine Split.mk (fun h2 => ?_) (fun h2 => ?_)
    · have h2 : (x.length : Int) < a := of_decide_eq_true h2
      cbv
      have e : getS (bn x) a = (0, 0, 2) := by rw [getS, if_pos (.inr (by simpa using h2))]
      simp only [Hold.iff, e]
      decide
    · have h2 : ¬ (x.length : Int) < a := of_decide_eq_false h2
      have hH : min (x.length : Int) (IntKind.i64.wrap (a + min 10 (IntKind.i64.wrap (x.length - a)))) = a + min 10 (x.length - a) := by
        rw [wrap_i64 (n := (x.length : Int) - a) (by omega), wrap_i64 (by omega)]
        omega
      have hE : List.take ((min (x.length : Int) (IntKind.i64.wrap (a + min 10 (IntKind.i64.wrap (x.length - a))))).toNat - a.toNat) (List.drop a.toNat x) = (x.drop a.toNat).take 10 := by
        rw [hH, List.take_eq_take_iff]
        simp
        omega
      rw [← hc] at hE
      have hwc : WfR U8 c := by rw [hc]; exact (hw.1.drop _).take _
      have hcl : c.length = min 10 (x.length - a.toNat) := by rw [hc]; simp
      have hS : getS (bn x) a = (match idx (bn c) with
        | none => if c.length = 10 then (0, 0, 10) else (0, 0, 4)
        | some n => if putB (valN ((bn c).take (n + 1))) = (bn c).take (n + 1) then (valN ((bn c).take (n + 1)), a + n + 1, 0) else (0, 0, 10)) := by
        rw [getS, if_neg (by simp; omega), hc, bn_take, bn_drop]
        simp
      clear hc
      have hB : 0 ≤ a ∧ a ≤ min (x.length : Int) (IntKind.i64.wrap (a + min 10 (IntKind.i64.wrap (x.length - a)))) ∧ min (x.length : Int) (IntKind.i64.wrap (a + min 10 (IntKind.i64.wrap (x.length - a)))) ≤ min (x.length : Int) (IntKind.i64.wrap (a + min 10 (IntKind.i64.wrap (x.length - a)))) ∧ min (x.length : Int) (IntKind.i64.wrap (a + min 10 (IntKind.i64.wrap (x.length - a)))) ≤ x.length := by
        rw [hH]
        omega
      cbv
      refine ⟨⟨hB⟩, ?_⟩
      · cases hid : idx (bn c) with
        | none =>
          rw [hid] at hS
          refine Split.mk (fun h3 => ?_) (fun h3 => ?_)
          · cbv
            refine Split.mk (fun h4 => ?_) (fun h4 => ?_)
            · have h4 := eq_t h4
              simp only [hE] at h4
              have h4 : (c.length : Int) = 10 := h4
              simp only [if_pos (show c.length = 10 by omega)] at hS
              cbv
              simp only [Hold.iff, hS]
              decide
            · have h4 := eq_f h4
              simp only [hE] at h4
              have h4 : (c.length : Int) ≠ 10 := h4
              simp only [if_neg (show c.length ≠ 10 by omega)] at hS
              cbv
              refine Split.mk (fun h5 => ?_) (fun h5 => ?_)
              · cbv
                simp only [Hold.iff, hS]
                decide
              · have h5 := of_decide_eq_false h5
                simp only [hE, hid, oi] at h5
                exfalso
                omega
          · have h3 := of_decide_eq_false h3
            simp only [hE, hid, oi] at h3
            exfalso
            omega
        | some n =>
          rw [hid] at hS
          refine Split.mk (fun h3 => ?_) (fun h3 => ?_)
          · have h3 := of_decide_eq_true h3
            simp only [hE, hid, oi] at h3
            exfalso
            omega
          · cbv
            refine .no ?_
            cbv
            refine Split.mk (fun h5 => ?_) (fun h5 => ?_)
            · have h5 := of_decide_eq_true h5
              simp only [hE, hid, oi] at h5
              exfalso
              omega
            · cbv
              refine LoopP.mk (GetI (bn c) n) (fun s => ⟨finit 70 [.sl false U8 fun _ => c, .int .i64 fun _ => a, .un, .un, .int .u64 fun _ => s.v, .int .i64 fun _ => 0, .int .i64 fun _ => 0, .int .i64 fun _ => n, .int .i64 fun _ => (s.i : Int) - 1], [], 80⟩) (fun s => s.i) ⟨n + 1, 0, Nat.le_refl _, ?_⟩ ?_ ?_
              · simp [valN]
              · cbv
                simp only [Hold.iff, hE, hid, oi]
                exact ⟨trivial, trivial, rfl, trivial, trivial, trivial, by simp⟩
              · intro ⟨i, v, hi, hv⟩
                have hnl : n < (bn c).length := (idx_lt hid)
                have hv64 : v < 18446744073709551616 := by rw [hv]; exact valN_lt _
                cbv
                refine Split.mk (fun h6 => ?_) (fun h6 => ?_)
                · have h6 : (0 : Int) ≤ (i : Int) - 1 := of_decide_eq_true h6
                  obtain ⟨j, rfl⟩ : ∃ j, i = j + 1 := ⟨i - 1, by omega⟩
                  have hjc : j < c.length := by simp at hnl; omega
                  have hb256 : (bn c).getD j 0 < 256 := bn_lt hwc _ (by simp [List.getD, hjc])
                  have hidx : 0 ≤ ((j + 1 : Nat) : Int) - 1 ∧ ((j + 1 : Nat) : Int) - 1 < (c.length : Int) := by omega
                  have hj1 : (((j + 1 : Nat) : Int) - 1).toNat = j := by omega
                  have hval : valN (((bn c).take (n + 1)).drop j) = v * 128 % 18446744073709551616 + (bn c).getD j 0 % 128 := by
                    have hlt : j < ((bn c).take (n + 1)).length := by simp; omega
                    rw [List.drop_eq_getElem_cons hlt, valN, ← hv]
                    simp [List.getD, hjc]
                  have hw1 : IntKind.i64.wrap (((j + 1 : Nat) : Int) - 1 - 1) = (j : Int) - 1 := by rw [wrap_i64 (by omega)]; omega
                  have hstep := step7 v _ hv64 hb256
                  have hn1 : j ≤ n + 1 := by omega
                  have hlt : j < j + 1 := by omega
                  have h7 : (0 : Int) ≤ 7 := by decide
                  cbv
                  refine ⟨⟨h7⟩, ⟨hidx⟩, ⟨j, _, hn1, hval.symm⟩, hlt, ?_⟩
                  cbv
                  refine ⟨⟨rfl⟩, ⟨rfl⟩, ⟨?_⟩, ⟨rfl⟩, ⟨rfl⟩, ⟨rfl⟩, ⟨hw1⟩⟩
                  simp only [hj1, bn_at hwc hjc]
                  exact hstep
                · have h6 : ¬ (0 : Int) ≤ (i : Int) - 1 := of_decide_eq_false h6
                  obtain rfl : i = 0 := by omega
                  have hnl' : n < c.length := by simpa using hnl
                  have hw1 : IntKind.i64.wrap ((n : Int) + 1) = n + 1 := wrap_i64 (by omega)
                  have hB : (0 : Int) ≤ 0 ∧ (0 : Int) ≤ IntKind.i64.wrap ((n : Int) + 1) ∧ IntKind.i64.wrap ((n : Int) + 1) ≤ IntKind.i64.wrap ((n : Int) + 1) ∧ IntKind.i64.wrap ((n : Int) + 1) ≤ (c.length : Int) := by rw [hw1]; omega
                  have hv0 : v = valN ((bn c).take (n + 1)) := by simpa using hv
                  have hpl : 0 + (putB ((v : Int)).toNat).length ≤ (rowB (putB ((v : Int)).toNat)).length := by simp
                  have hD : bn (List.take (putB ((v : Int)).toNat).length (List.drop 0 (rowB (putB ((v : Int)).toNat)))) = putB v := by simp
                  have hF : bn (List.take ((IntKind.i64.wrap ((n : Int) + 1)).toNat - Int.toNat 0) (List.drop (Int.toNat 0) c)) = (bn c).take (n + 1) := by
                    rw [hw1, bn_take, bn_drop]
                    simp
                  have hs1 : IntKind.i64.wrap (IntKind.i64.wrap (a + n) + 1) = a + n + 1 := by rw [wrap_i64 (n := a + n) (by omega), wrap_i64 (by omega)]
                  simp only [← hv0] at hS
                  cbv
                  refine ⟨⟨hB⟩, ⟨hpl⟩, Split.mk (fun h8 => ?_) (fun h8 => ?_)⟩
                  · simp only [hD, hF] at h8
                    have h8 : putB v ≠ (bn c).take (n + 1) := by simpa using h8
                    rw [if_neg h8] at hS
                    cbv
                    simp only [Hold.iff, hS]
                    decide
                  · simp only [hD, hF] at h8
                    have h8 : putB v = (bn c).take (n + 1) := by simpa using h8
                    rw [if_pos h8] at hS
                    cbv
                    simp only [Hold.iff, hS]
                    exact ⟨trivial, hs1, trivial⟩
end Go.Am
/- alibilaw01.works keeps its contract: it returns true. -/
namespace Go.Am
set_option linter.all false
set_option linter.deprecated false
open Go.Proofs
set_option maxRecDepth 100000
set_option maxHeartbeats 4000000
def trueC : Contract := { modes := [], fn := fun args M => match args, M with
  | [], [] => some ⟨[], .bool (fun _ => true), []⟩
  | _, _ => none }
def L3 : List (Nat × Contract) := [(19, putC), (21, getC), (22, sameC)]
def G3 : Ctx := fun f => gget L3 f
theorem G3_ok : ∀ f C, G3 f = some C → CSound Try.prog f C := gget_cons put_ok (gget_cons get_ok (gget_cons same_ok (gget_nil _)))
theorem works_ok : CSound Try.prog 18 trueC := by
  refine fsound' (G := G3) (c := codeOf Try.f18) mixed tyT G3_ok Try.func18 (by rfl) (by kernel_rfl) (by kernel_rfl) fun args M r hr hvc hw hm => ?_
  unfold trueC at hr
  simp only at hr
  split at hr <;> cases hr
  clear hvc hm
  cbv
  refine ⟨⟨by decide +kernel⟩, ⟨by decide +kernel⟩, ⟨by decide +kernel⟩, ⟨by decide +kernel⟩, ⟨by decide +kernel⟩, ⟨by decide +kernel⟩, ⟨by decide +kernel⟩, ?_⟩
  refine .ofT (by decide +kernel) ?_
  cbv
  refine .ofT (by decide +kernel) ?_
  cbv
  refine .ofT (by decide +kernel) ?_
  cbv
  refine .ofT (by decide +kernel) ?_
  cbv
  refine .ofT (by decide +kernel) ?_
  cbv
  refine .ofT (by decide +kernel) ?_
  cbv
  refine .ofT (by decide +kernel) ?_
  cbv
  refine .ofT (by decide +kernel) ?_
  cbv
  refine .ofT (by decide +kernel) ?_
  cbv
  exact ⟨by decide +kernel⟩
end Go.Am
/- The numbers in few bytes: plain laws. -/
namespace Go.Am
set_option linter.all false
set_option linter.deprecated false
theorem put1_len : ∀ (f v : Nat), 1 ≤ (put1 f v).length ∧ (put1 f v).length ≤ f + 1
  | 0, _ => by simp [put1]
  | f + 1, v => by
    rw [put1]
    split
    · simp
    · have := put1_len f (v / 128)
      simp; omega
theorem put1_val : ∀ (f v : Nat), v < 18446744073709551616 → v < 128 ^ (f + 1) → valN (put1 f v) = v
  | 0, v, h, h2 => by simp [put1, valN]; omega
  | f + 1, v, h, h2 => by
    rw [put1]
    split
    · simp [valN]; omega
    · rw [Nat.pow_succ] at h2
      rw [valN, put1_val f (v / 128) (by omega) (by omega)]
      omega
theorem put1_idx : ∀ (f v : Nat) (C : List Nat), v < 128 ^ (f + 1) → idx (put1 f v ++ C) = some ((put1 f v).length - 1)
  | 0, v, C, h => by
    have h : v < 128 := by omega
    simp [put1, idx, List.findIdx?_cons, h]
  | f + 1, v, C, h => by
    rw [put1]
    split
    · rename_i hv
      simp [idx, List.findIdx?_cons, hv]
    · rw [Nat.pow_succ] at h
      have ih := put1_idx f (v / 128) C (by omega)
      have hl := (put1_len f (v / 128)).1
      simp only [idx] at ih
      rename_i hv
      simp only [idx, List.cons_append, List.findIdx?_cons, ih]
      rw [if_neg (by simp)]
      simp only [Option.map_some, List.length_cons, Option.some.injEq]
      omega
theorem put1_pre : ∀ (f v u : Nat), v < 128 ^ (f + 1) → u < 128 ^ (f + 1) → (put1 f v).take (min (put1 f v).length (put1 f u).length) = (put1 f u).take (min (put1 f v).length (put1 f u).length) → v = u
  | 0, v, u, _, _, h => by simpa [put1] using h
  | f + 1, v, u, h1, h2, h => by
    have lv := put1_len f (v / 128)
    have lu := put1_len f (u / 128)
    rw [Nat.pow_succ] at h1 h2
    simp only [put1] at h
    split at h <;> split at h
    · simpa using h
    · rename_i a b
      simp [Nat.min_eq_left (show 1 ≤ (put1 f (u / 128)).length + 1 by omega)] at h
      omega
    · rename_i a b
      simp [Nat.min_eq_right (show 1 ≤ (put1 f (v / 128)).length + 1 by omega)] at h
      omega
    · simp only [List.length_cons, Nat.add_min_add_right, List.take_succ_cons, List.cons.injEq] at h
      have := put1_pre f (v / 128) (u / 128) (by omega) (by omega) h.2
      omega
theorem put1_mono : ∀ (f v u : Nat), v ≤ u → (put1 f v).length ≤ (put1 f u).length
  | 0, _, _, _ => by simp [put1]
  | f + 1, v, u, h => by
    have lu := put1_len f (u / 128)
    simp only [put1]
    split <;> split
    · simp
    · simp
    · omega
    · have := put1_mono f (v / 128) (u / 128) (by omega)
      simpa using this
theorem getS_put {v : Nat} (hv : v < 18446744073709551616) (B C : List Nat) : getS (B ++ putB v ++ C) (B.length : Int) = (v, (B.length : Int) + (putB v).length, 0) := by
  have hl := put1_len 9 v
  have hp : v < 128 ^ (9 + 1) := by omega
  have hd : ((B ++ putB v ++ C).drop B.length).take 10 = putB v ++ C.take (10 - (putB v).length) := by
    rw [List.append_assoc, List.drop_left, List.take_append, List.take_of_length_le (by simpa [putB] using hl.2)]
  rw [getS, if_neg (by simp; omega)]
  simp only [Int.toNat_natCast, hd]
  have hi : idx (putB v ++ C.take (10 - (putB v).length)) = some ((putB v).length - 1) := put1_idx 9 v _ hp
  rw [hi]
  have e1 : (putB v).length - 1 + 1 = (putB v).length := by simp only [putB]; omega
  simp only [e1, List.take_left]
  have e2 : valN (putB v) = v := put1_val 9 v hv hp
  rw [e2, if_pos rfl]
  have e3 : (B.length : Int) + ((putB v).length - 1 : Nat) + 1 = (B.length : Int) + (putB v).length := by omega
  rw [e3]
theorem getS_ok {C : List Nat} {a : Int} (h : (getS C a).2.2 = 0) : 0 ≤ a ∧ ∃ n : Nat, a.toNat + n ≤ C.length ∧ (getS C a).2.1 = a + n ∧ putB (getS C a).1 = (C.drop a.toNat).take n := by
  rw [getS] at h ⊢
  split at h
  · simp at h
  · rename_i hc
    simp only [hc, if_false]
    simp only at h ⊢
    split at h
    · split at h <;> simp at h
    · rename_i n hn
      split at h
      · rename_i hp
        have hlt := idx_lt hn
        simp only [List.length_take, List.length_drop] at hlt
        rw [if_pos hp]
        refine ⟨by omega, n + 1, by omega, by simp; omega, ?_⟩
        simp only
        rw [hp, List.take_take, Nat.min_eq_left (by omega)]
      · simp at h
theorem getS_lt (C : List Nat) (a : Int) : (getS C a).1 < 18446744073709551616 := by
  rw [getS]
  split
  · simp
  · simp only
    split
    · split <;> simp
    · split
      · exact valN_lt _
      · simp
theorem same_pre {v u : Nat} (hv : v < 18446744073709551616) (hu : u < 18446744073709551616) :
    ((putB v).take (min (putB v).length (putB u).length) == (putB u).take (min (putB v).length (putB u).length)) = (v == u) := by
  by_cases h : v = u
  · subst h; simp
  · rw [(beq_eq_false_iff_ne).2 h, beq_eq_false_iff_ne]
    exact fun e => h (put1_pre 9 v u (by omega) (by omega) e)
end Go.Am
/- alibilaw01.VarintBack keeps its contract: it returns true. -/
namespace Go.Am
set_option linter.all false
set_option linter.deprecated false
open Go.Proofs
set_option maxRecDepth 100000
set_option maxHeartbeats 4000000
def backC : Contract := { modes := [], fn := fun args M => match args, M with
  | [.int .u64 _, .int .u64 _, .sl _ [.int .u8] _, .sl _ [.int .u8] _], [] => some ⟨[], .bool (fun _ => true), []⟩
  | _, _ => none }
def L4 : List (Nat × Contract) := [(18, trueC), (19, putC), (20, ownC), (21, getC), (22, sameC)]
def G4 : Ctx := fun f => gget L4 f
theorem G4_ok : ∀ f C, G4 f = some C → CSound Try.prog f C := gget_cons works_ok (gget_cons put_ok (gget_cons own_ok (gget_cons get_ok (gget_cons same_ok (gget_nil _)))))
theorem back_ok : CSound Try.prog 3 backC := by
  refine fsound' (G := G4) (c := codeOf Try.f3) mixed tyT G4_ok Try.func3 (by rfl) (by kernel_rfl) (by kernel_rfl) fun args M r hr hvc hw hm => ?_
  unfold backC at hr
  simp only at hr
  split at hr <;> cases hr
  rename_i v u _ b _ c
  obtain ⟨b, rfl⟩ : ∃ x, b = fun _ => x := ⟨b (), rfl⟩
  obtain ⟨c, rfl⟩ : ∃ x, c = fun _ => x := ⟨c (), rfl⟩
  obtain ⟨v, rfl⟩ : ∃ x, v = fun _ => x := ⟨v (), rfl⟩
  obtain ⟨u, rfl⟩ : ∃ x, u = fun _ => x := ⟨u (), rfl⟩
  clear hvc hm
  simp only [WfVs, WfV, and_true, u64_iff] at hw
  obtain ⟨hv, hu, hb, hc⟩ := hw
  obtain ⟨v, rfl⟩ := Int.eq_ofNat_of_zero_le hv.1
  obtain ⟨u, rfl⟩ := Int.eq_ofNat_of_zero_le hu.1
  have lv := put1_len 9 v
  have lu := put1_len 9 u
  rw [← putB] at lv lu
  have hG : getS (bn b ++ (putB v ++ bn c)) (b.length : Int) = (v, (b.length : Int) + (putB v).length, 0) := by
    have := getS_put (v := v) (by omega) (bn b) (bn c)
    simpa using this
  have hmin : (min ((putB v).length : Int) ((putB u).length : Int)).toNat = min (putB v).length (putB u).length := by omega
  have hB1 : (0 : Int) ≤ 0 ∧ (0 : Int) ≤ min ((putB v).length : Int) ((putB u).length : Int) ∧ min ((putB v).length : Int) ((putB u).length : Int) ≤ min ((putB v).length : Int) ((putB u).length : Int) ∧ min ((putB v).length : Int) ((putB u).length : Int) ≤ ((putB v).length : Int) := by omega
  have hB2 : (0 : Int) ≤ 0 ∧ (0 : Int) ≤ min ((putB v).length : Int) ((putB u).length : Int) ∧ min ((putB v).length : Int) ((putB u).length : Int) ≤ min ((putB v).length : Int) ((putB u).length : Int) ∧ min ((putB v).length : Int) ((putB u).length : Int) ≤ ((putB u).length : Int) := by omega
  have hB3 : 0 + Int.toNat 0 + ((min ((putB v).length : Int) ((putB u).length : Int)).toNat - Int.toNat 0) ≤ (rowB (putB v)).length := by rw [hmin]; simp; omega
  have hB4 : 0 + Int.toNat 0 + ((min ((putB v).length : Int) ((putB u).length : Int)).toNat - Int.toNat 0) ≤ (rowB (putB u)).length := by rw [hmin]; simp; omega
  have hsame := same_pre (v := v) (u := u) (by omega) (by omega)
  have hvu : ((v : Int) == (u : Int)) = (v == u) := by rw [Bool.eq_iff_iff]; simp; omega
  have hmono : (v : Int) ≤ (u : Int) → ¬ ((putB v).length : Int) > ((putB u).length : Int) := fun h => by
    have := put1_mono 9 v u (by omega)
    simp only [putB]
    omega
  have hk1 : (getS (bn c) 0).2.2 = 0 → ¬ ((c.length : Int) < (getS (bn c) 0).2.1) := fun h => by
    obtain ⟨_, n, k1, k2, _⟩ := getS_ok (C := bn c) (a := 0) h
    simp at k1
    omega
  have hk2 : (getS (bn c) 0).2.2 = 0 → ((0 : Int) ≤ 0 ∧ (0 : Int) ≤ (getS (bn c) 0).2.1 ∧ (getS (bn c) 0).2.1 ≤ (getS (bn c) 0).2.1 ∧ (getS (bn c) 0).2.1 ≤ (c.length : Int)) := fun h => by
    obtain ⟨_, n, k1, k2, _⟩ := getS_ok (C := bn c) (a := 0) h
    simp at k1
    omega
  have hk5 : ∀ m, List.take (min m c.length) (List.take m (bn c)) = List.take m (bn c) := fun m => List.take_of_length_le (by simp)
  have hk4 : (getS (bn c) 0).2.2 = 0 → putB (getS (bn c) 0).1 = (bn c).take ((getS (bn c) 0).2.1).toNat := fun h => by
    obtain ⟨_, n, k1, k2, k3⟩ := getS_ok (C := bn c) (a := 0) h
    rw [k3, k2]
    simp
  cbv
  refine Split.mk (fun h => ?_) (fun h => ?_)
  · cbv
    refine .yes ?_
    cbv
    exact ⟨rfl⟩
  · have h1 : ¬ (100 : Int) < b.length := of_decide_eq_false h
    have h1 : b.length ≤ 100 := by omega
    cbv
    refine Split.mk (fun h => ?_) (fun h => ?_)
    · cbv
      exact ⟨rfl⟩
    · have h2 : ¬ (100 : Int) < c.length := of_decide_eq_false h
      have h2 : c.length ≤ 100 := by omega
      cbv
      have hw1 : IntKind.i64.wrap ((b.length : Int) + ((putB v).length : Int)) = (b.length : Int) + ((putB v).length : Int) := wrap_i64 (by omega)
      clear hb
      have f1 : b.length + (putB v).length ≤ 1099511627776 := by omega
      have f2 : b.length + (putB v).length + c.length ≤ 1099511627776 := by omega
      have f3 : (1 : Int) ≤ ((putB v).length : Int) := by omega
      have f4 : ((putB v).length : Int) ≤ 10 := by omega
      have hT1 : List.take (b.length + (putB v).length) (b ++ rowB (putB v)) = b ++ rowB (putB v) := List.take_of_length_le (by simp)
      have hT2 : List.take (b.length + (putB v).length + c.length) (b ++ (rowB (putB v) ++ c)) = b ++ (rowB (putB v) ++ c) := List.take_of_length_le (by simp; omega)
      refine ⟨⟨by simp [big]; omega⟩, ⟨rfl⟩, ⟨by simp⟩, ⟨by simp [big]; exact f1⟩, ⟨by simp⟩, ⟨rfl⟩, ⟨by simp⟩, ⟨by simp [big]; exact f2⟩, ⟨by simp⟩, ?_⟩
      refine .ofF (by simp [bn_append, hG, hT1, hT2]) ?_
      cbv
      refine .ofF (by simp [bn_append, hG, hT1, hT2, hw1]) ?_
      cbv
      refine .ofF (by simp [bn_append, hG, hT1, hT2]) ?_
      cbv
      refine .ofF (by simp; exact f3) ?_
      cbv
      refine .ofF (by simp; exact f4) ?_
      cbv
      refine ⟨⟨hB1⟩, ⟨hB2⟩, ⟨hB3⟩, ⟨hB4⟩, ?_⟩
      refine .ofF (by simp [hmin, bn_take, hsame, hvu]) ?_
      cbv
      refine Split.mk (fun h => ?_) (fun h => ?_)
      · have h := hmono (of_decide_eq_true h)
        cbv
        refine .ofF (decide_eq_false h) ?_
        cbv
        refine Split.mk (fun h => ?_) (fun h => ?_)
        · have h := eq_t h
          cbv
          refine .ofF (decide_eq_false (hk1 h)) ?_
          cbv
          refine ⟨⟨hk2 h⟩, ⟨by simp⟩, ?_⟩
          refine .ofF (by simp [bn_take, hk4 h, hk5]) ?_
          cbv
          exact ⟨rfl⟩
        · cbv
          refine .no ?_
          cbv
          exact ⟨rfl⟩
      · cbv
        refine .no ?_
        cbv
        refine Split.mk (fun h => ?_) (fun h => ?_)
        · have h := eq_t h
          cbv
          refine .ofF (decide_eq_false (hk1 h)) ?_
          cbv
          refine ⟨⟨hk2 h⟩, ⟨by simp⟩, ?_⟩
          refine .ofF (by simp [bn_take, hk4 h, hk5]) ?_
          cbv
          exact ⟨rfl⟩
        · cbv
          refine .no ?_
          cbv
          exact ⟨rfl⟩
end Go.Am
/- alibikit.Spoil and the document's Put keep their contracts. -/
namespace Go.Am
set_option linter.all false
set_option linter.deprecated false
open Go.Proofs
set_option maxRecDepth 100000
set_option maxHeartbeats 4000000
def spoil (xs : List (List D)) (lo len : Nat) : List (List D) := xs.take lo ++ List.replicate len [D.int 165] ++ xs.drop (lo + len)
def spoilC : Contract := { modes := [.mut], fn := fun args M => match args, M with
  | [.ms 0 lo len], [(0, .row nn [.int .u8] xs)] => some ⟨[fun _ => lo () + len () ≤ (xs ()).length], .tup [], [(0, some (.row nn U8 fun _ => spoil (xs ()) (lo ()) (len ())))]⟩
  | _, _ => none }
structure SpI (n : Nat) where
  i : Nat
  hi : i ≤ n
theorem spoil_next {xs : List (List D)} {lo i : Nat} (h : lo + i < xs.length) : (spoil xs lo i).set (lo + i) [D.int 165] = spoil xs lo (i + 1) := by
  have e : lo + i = (xs.take lo ++ List.replicate i [D.int 165]).length := by simp; omega
  have e2 : xs.drop (lo + i) = xs[lo + i] :: xs.drop (lo + (i + 1)) := by rw [List.drop_eq_getElem_cons h]; rfl
  simp only [spoil]
  conv => lhs; rw [e2]
  rw [List.set_append, if_neg (by simp; omega)]
  have e3 : lo + i - (xs.take lo ++ List.replicate i [D.int 165]).length = 0 := by simp; omega
  rw [e3, List.set_cons_zero, List.replicate_succ']
  simp
theorem spoil_ok : CSound Try.prog 25 spoilC := by
  refine fsound' (G := G0) (c := codeOf Try.f25) mixed tyT (gget_nil _) Try.func25 (by rfl) (by kernel_rfl) (by kernel_rfl) fun args M r hr hvc hw hm => ?_
  unfold spoilC at hr
  simp only at hr
  split at hr <;> cases hr
  rename_i lo len nn xs
  obtain ⟨lo, rfl⟩ : ∃ x, lo = fun _ => x := ⟨lo (), rfl⟩
  obtain ⟨len, rfl⟩ : ∃ x, len = fun _ => x := ⟨len (), rfl⟩
  obtain ⟨x, rfl⟩ : ∃ x, xs = fun _ => x := ⟨xs (), rfl⟩
  have hb : lo + len ≤ x.length := hvc _ (List.mem_singleton.2 rfl)
  have hm := hm ⟨rfl, trivial⟩
  simp only [WfM, WfO, and_true] at hm
  have hl := hm.1
  clear hvc
  have s0 : x = spoil x lo 0 := by simp [spoil]
  have hw1 : ∀ i : Nat, i < len → IntKind.i64.wrap ((i : Int) + 1) = ((i + 1 : Nat) : Int) := fun i h => by rw [wrap_i64 (by omega)]; omega
  have hB1 : ∀ i : Nat, i < len → (0 : Int) ≤ (i : Int) ∧ (i : Int) < (len : Int) := fun i h => by omega
  have hB2 : ∀ i : Nat, i < len → lo + ((i : Int)).toNat < (spoil x lo i).length := fun i h => by simp [spoil]; omega
  have hB3 : ∀ i : Nat, i < len → (spoil x lo i).set (lo + ((i : Int)).toNat) [D.int 165] = spoil x lo (i + 1) := fun i h => by rw [Int.toNat_natCast]; exact spoil_next (by omega)
  cases nn
  · cbv
    refine LoopP.mk (SpI len) (fun s => ⟨finit 12 [.ms 0 (fun _ => lo) (fun _ => len), .un, .int .i64 fun _ => s.i], [(0, .row false U8 fun _ => spoil x lo s.i)], 17⟩) (fun s => len - s.i) ⟨0, Nat.zero_le _⟩ ?_ ?_
    · cbv
      exact ⟨⟨rfl, rfl⟩, ⟨rfl⟩, ⟨s0⟩⟩
    · intro ⟨i, hi⟩
      have hn1 : i < len → i + 1 ≤ len ∧ len - (i + 1) < len - i := fun h => by omega
      have hn2 : ¬ (i : Int) < (len : Int) → i = len := fun h => by omega
      have hn3 : (i : Int) < (len : Int) → i < len := fun h => by omega
      cbv
      refine Split.mk (fun h => ?_) (fun h => ?_)
      · have h := hn3 (of_decide_eq_true h)
        cbv
        refine ⟨⟨hB1 i h⟩, ⟨hB2 i h⟩, ⟨i + 1, (hn1 h).1⟩, (hn1 h).2, ?_⟩
        cbv
        exact ⟨⟨rfl, rfl⟩, ⟨hw1 i h⟩, ⟨hB3 i h⟩⟩
      · have h := hn2 (of_decide_eq_false h)
        subst h
        cbv
        exact ⟨rfl⟩
  · cbv
    refine LoopP.mk (SpI len) (fun s => ⟨finit 12 [.ms 0 (fun _ => lo) (fun _ => len), .un, .int .i64 fun _ => s.i], [(0, .row true U8 fun _ => spoil x lo s.i)], 17⟩) (fun s => len - s.i) ⟨0, Nat.zero_le _⟩ ?_ ?_
    · cbv
      exact ⟨⟨rfl, rfl⟩, ⟨rfl⟩, ⟨s0⟩⟩
    · intro ⟨i, hi⟩
      have hn1 : i < len → i + 1 ≤ len ∧ len - (i + 1) < len - i := fun h => by omega
      have hn2 : ¬ (i : Int) < (len : Int) → i = len := fun h => by omega
      have hn3 : (i : Int) < (len : Int) → i < len := fun h => by omega
      cbv
      refine Split.mk (fun h => ?_) (fun h => ?_)
      · have h := hn3 (of_decide_eq_true h)
        cbv
        refine ⟨⟨hB1 i h⟩, ⟨hB2 i h⟩, ⟨i + 1, (hn1 h).1⟩, (hn1 h).2, ?_⟩
        cbv
        exact ⟨⟨rfl, rfl⟩, ⟨hw1 i h⟩, ⟨hB3 i h⟩⟩
      · have h := hn2 (of_decide_eq_false h)
        subst h
        cbv
        exact ⟨rfl⟩
def rputC (n : Nat) : Contract := { modes := [.ro], fn := fun args M => match args, M with
  | [.int .u64 v], [] => some ⟨[fun _ => (v ()).toNat < 128 ^ (n + 1)], .ms 0 (fun _ => 0) (fun _ => (put1 n (v ()).toNat).length), [(0, some (.row true U8 fun _ => rowB (put1 n (v ()).toNat)))]⟩
  | _, _ => none }
def Lr (n : Nat) : List (Nat × Contract) := [(23, rputC n)]
def Gr (n : Nat) : Ctx := fun f => gget (Lr n) f
theorem rput0 : CSound Try.prog 23 (rputC 0) := by
  refine fsound' (G := G0) (c := codeOf Try.f23) mixed tyT (gget_nil _) Try.func23 (by rfl) (by kernel_rfl) (by kernel_rfl) fun args M r hr hvc hw hm => ?_
  unfold rputC at hr
  simp only at hr
  split at hr <;> cases hr
  rename_i v
  obtain ⟨n, rfl⟩ : ∃ n, v = fun _ => n := ⟨v (), rfl⟩
  have hb := hvc _ (List.mem_singleton.2 rfl)
  clear hvc hm
  simp only [WfVs, WfV, and_true, u64_iff] at hw
  obtain ⟨n, rfl⟩ := Int.eq_ofNat_of_zero_le hw.1
  have hn : n < 128 := by simpa using hb
  have h1 : (n : Int) < 128 := by omega
  have h2 : IntKind.u8.wrap (n : Int) = n := by rw [wrap_u8_mod]; omega
  clear hb
  cbv
  refine .ofT (decide_eq_true h1) ?_
  cbv
  simp [Hold.iff, chunk, h2, put1, rowB]
theorem rputS (n : Nat) (hn : n ≤ 100) (ih : CSound Try.prog 23 (rputC n)) : CSound Try.prog 23 (rputC (n + 1)) := by
  refine fsound' (G := Gr n) (c := codeOf Try.f23) mixed tyT (gget_cons ih (gget_nil _)) Try.func23 (by rfl) (by kernel_rfl) (by kernel_rfl) fun args M r hr hvc hw hm => ?_
  unfold rputC at hr
  simp only at hr
  split at hr <;> cases hr
  rename_i v
  obtain ⟨u, rfl⟩ : ∃ n, v = fun _ => n := ⟨v (), rfl⟩
  have hb := hvc _ (List.mem_singleton.2 rfl)
  clear hvc hm
  simp only [WfVs, WfV, and_true, u64_iff] at hw
  obtain ⟨u, rfl⟩ := Int.eq_ofNat_of_zero_le hw.1
  simp only [Int.toNat_natCast] at hb
  rw [Nat.pow_succ] at hb
  have d0 : ((u : Int).tdiv 128) = ((u / 128 : Nat) : Int) := by rw [Int.tdiv_eq_ediv_of_nonneg (by omega)]; omega
  have d1 : IntKind.u64.wrap ((u : Int).tdiv 128) = ((u / 128 : Nat) : Int) := by rw [d0, wrap_u64 (by omega)]
  have d3 : ((u : Int).tmod 128) = ((u % 128 : Nat) : Int) := by rw [Int.tmod_eq_emod_of_nonneg (by omega)]; omega
  have d2 : IntKind.u8.wrap (IntKind.u8.wrap ((u : Int).tmod 128) + 128) = ((u % 128 + 128 : Nat) : Int) := by rw [d3, wrap_u8_mod, wrap_u8_mod]; omega
  have hlen := put1_len n (u / 128)
  have f1 : 1 + (put1 n (u / 128)).length ≤ 1099511627776 := by omega
  have f2 : u / 128 < 128 ^ (n + 1) := by omega
  have e1 : (u : Int) < 128 → put1 (n + 1) u = [u] ∧ IntKind.u8.wrap (u : Int) = u := fun h => by rw [put1, if_pos (by omega), wrap_u8_mod]; exact ⟨rfl, by omega⟩
  have e2 : ¬ (u : Int) < 128 → put1 (n + 1) u = (u % 128 + 128) :: put1 n (u / 128) := fun h => by rw [put1, if_neg (by omega)]
  have e3 : List.take (put1 n (u / 128)).length (rowB (put1 n (u / 128))) = rowB (put1 n (u / 128)) := take_rowB _
  cbv
  refine Split.mk (fun h => ?_) (fun h => ?_)
  · have h := e1 (of_decide_eq_true h)
    cbv
    simp [Hold.iff, chunk, h.1, h.2, rowB]
  · have h := e2 (of_decide_eq_false h)
    cbv
    simp only [Hold.iff, chunk, d1, d2, Int.toNat_natCast, h]
    simp [big, e3]
    exact ⟨f2, f1, Nat.add_comm _ _, by simp [rowB]⟩
theorem rput_all : ∀ n, n ≤ 100 → CSound Try.prog 23 (rputC n)
  | 0, _ => rput0
  | n + 1, h => rputS n (by omega) (rput_all n (by omega))
/-- the document's Put: the same bytes -/
def rputC' : Contract := { modes := [.ro], fn := fun args M => match args, M with
  | [.int .u64 v], [] => some ⟨[], .ms 0 (fun _ => 0) (fun _ => (putB (v ()).toNat).length), [(0, some (.row true U8 fun _ => rowB (putB (v ()).toNat)))]⟩
  | _, _ => none }
theorem rput_ok : CSound Try.prog 23 rputC' := by
  refine csound_of (rput_all 9 (by omega)) fun args M r hr hvc hw => ?_
  unfold rputC' at hr
  simp only at hr
  split at hr <;> cases hr
  rename_i v
  simp only [WfVs, WfV, and_true, u64_iff] at hw
  refine ⟨_, rfl, fun p hp => ?_, rfl, rfl⟩
  rw [List.mem_singleton.1 hp]
  show (v ()).toNat < 128 ^ 10
  omega
end Go.Am
