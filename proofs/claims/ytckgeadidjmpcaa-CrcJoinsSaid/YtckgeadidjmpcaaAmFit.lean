/- One symbolic state fits into another. -/
import Derived.Test.YtckgeadidjmpcaaAmReg
namespace Go.Am
set_option linter.all false
set_option linter.deprecated false
section
variable {w w0 : World} {I J I0 : Nat → Prop} {σ τ σ0 : Sig} {M M' M0 : MS}

def Bound (σ τ : Sig) (map : List (Nat × Option Nat)) : Prop := ∀ k x, kget map k = some x → τ k = (match x with | some a => σ a | none => some none)
structure Good (σ τ : Sig) (J : Nat → Prop) (f : Fs) : Prop where
  map : Bound σ τ f.map
  froz : ∀ b, Lent σ f.froz b → J b
  vc : ∀ p ∈ f.vc, p ()
structure Mono (f f' : Fs) : Prop where
  map : ∀ k x, kget f.map k = some x → kget f'.map k = some x
  new : ∀ k x, kget f'.map k = some x → kget f.map k = some x ∨ k ∈ f'.todo
  todo : ∀ k ∈ f.todo, k ∈ f'.todo
  froz : ∀ k ∈ f.froz, k ∈ f'.froz
  vc : ∀ p ∈ f.vc, p ∈ f'.vc
theorem Mono.refl (f : Fs) : Mono f f := ⟨fun _ _ h => h, fun _ _ h => .inl h, fun _ h => h, fun _ h => h, fun _ h => h⟩
theorem Mono.trans {f g h : Fs} (a : Mono f g) (b : Mono g h) : Mono f h :=
  ⟨fun k x hk => b.map k x (a.map k x hk), fun k x hk => by
    rcases b.new k x hk with h1 | h1
    · rcases a.new k x h1 with h2 | h2
      · exact .inl h2
      · exact .inr (b.todo k h2)
    · exact .inr h1, fun k hk => b.todo k (a.todo k hk), fun k hk => b.froz k (a.froz k hk), fun p hp => b.vc p (a.vc p hp)⟩
theorem Good.of {f f' : Fs} (h : Good σ τ J f') (m : Mono f f') : Good σ τ J f :=
  ⟨fun k x hk => h.map k x (m.map k x hk), fun b ⟨k, hk, r⟩ => h.froz b ⟨k, m.froz k hk, r⟩, fun p hp => h.vc p (m.vc p hp)⟩
theorem Mono.add (f : Fs) (p : Unit → Prop) : Mono f (f.add p) :=
  ⟨fun _ _ h => h, fun _ _ h => .inl h, fun _ h => h, fun _ h => h, fun q hq => List.mem_append_left _ hq⟩
theorem Good.add {f : Fs} {p : Unit → Prop} (h : Good σ τ J (f.add p)) : p () := h.vc p (List.mem_append_right _ (List.mem_singleton.2 rfl))
theorem bindKey_ok {f f' : Fs} {want : Nat} {x : Option Nat} (h : f.bindKey want x = some f') : Mono f f' ∧ kget f'.map want = some x := by
  unfold Fs.bindKey at h
  split at h
  · rename_i hn
    simp only [Option.some.injEq] at h
    subst h
    refine ⟨⟨fun k y hk => ?_, fun k y hk => ?_, fun k hk => List.mem_append_left _ hk, fun _ h => h, fun _ h => h⟩, by simp [kget, Nat.beq_refl]⟩
    · simp only [kget]
      split
      · rename_i hb
        have hb := Nat.eq_of_beq_eq_true hb
        subst hb
        rw [hn] at hk
        cases hk
      · exact hk
    · simp only [kget] at hk
      split at hk
      · rename_i hb
        have hb := Nat.eq_of_beq_eq_true hb
        subst hb
        exact .inr (List.mem_append_right _ (List.mem_singleton.2 rfl))
      · exact .inl hk
  · rename_i h0 hn
    split at h <;> (try (cases h; done))
    · split at h <;> (try (cases h; done))
      rename_i hb
      have hb := Nat.eq_of_beq_eq_true hb
      subst hb
      simp only [Option.some.injEq] at h
      subst h
      exact ⟨.refl f, hn⟩
    · simp only [Option.some.injEq] at h
      subst h
      exact ⟨.refl f, hn⟩
theorem Mono.frozAdd (f : Fs) (p : Unit → Prop) (n : Nat) : Mono f { (f.add p) with froz := f.froz ++ [n] } :=
  ⟨fun _ _ h => h, fun _ _ h => .inl h, fun _ h => h, fun _ h => List.mem_append_left _ h, fun q hq => List.mem_append_left _ hq⟩
theorem leB_iff {a b : Bool} (h : leB a b = true) : b = true → a = true := by cases a <;> cases b <;> simp_all [leB]
mutual
theorem fitV_ok (hok : Ok w I σ M) (hIJ : ∀ b, I b → J b) : ∀ (v v' : AV) (f f' : Fs), fitV M v v' f = some f' → Mono f f' ∧ (Good σ τ J f' → ∀ u, VR w I σ v u → VR w J τ v' u) := by
  intro v v' f f' h
  have KJ : Keep w I σ w J σ := ⟨fun _ _ => rfl, hIJ, fun _ _ h => h⟩
  unfold fitV at h
  split at h
  · simp only [Option.some.injEq] at h; subst h; exact ⟨.refl _, fun _ _ _ => by simp only [VR]⟩
  · simp only [Option.some.injEq] at h; subst h; exact ⟨.refl _, fun _ _ hu => by simpa only [VR] using hu⟩
  · split at h <;> (try (cases h; done))
    rename_i hk
    simp only [decide_eq_true_eq] at hk
    simp only [Option.some.injEq] at h; subst h hk
    exact ⟨.add _ _, fun g u hu => by have := g.add; simp only [VR] at hu ⊢; rw [← this]; exact hu⟩
  · simp only [Option.some.injEq] at h; subst h
    exact ⟨.add _ _, fun g u hu => by have := g.add; simp only [VR] at hu ⊢; rw [← this]; exact hu⟩
  · simp only [Option.some.injEq] at h; subst h
    exact ⟨.add _ _, fun g u hu => by have := g.add; simp only [VR] at hu ⊢; rw [← this]; exact hu⟩
  · simp only [Option.some.injEq] at h; subst h; exact ⟨.refl _, fun _ _ hu => by simpa only [VR] using hu⟩
  · simp only [Option.some.injEq] at h; subst h; exact ⟨.refl _, fun _ _ hu => by simpa only [VR] using hu⟩
  · simp only [Option.some.injEq] at h; subst h; exact ⟨.refl _, fun _ _ hu => by simpa only [VR] using hu⟩
  · simp only [Option.some.injEq] at h; subst h
    refine ⟨.add _ _, fun g u hu => ?_⟩
    have hy := g.add
    simp only [VR] at hu ⊢
    subst hu
    refine ⟨?_, by simp⟩
    simp only [Dat, D.toList, hy]
    exact ⟨none, 0, 0, rfl, rfl, Nat.le_refl _, Nat.zero_le _, fun _ => rfl, by simp, fun i hi => by omega⟩
  · split at h <;> (try (cases h; done))
    rename_i hl he
    simp only [Option.some.injEq] at h; subst h
    have he := shEqs_ok he
    subst he
    refine ⟨.add _ _, fun g u hu => ?_⟩
    have hy := g.add
    simp only [VR] at hu ⊢
    rw [← hy]
    exact ⟨Dat.keep (fun _ _ => rfl) hIJ _ _ _ hu.1, fun hn => hu.2 (leB_iff hl hn)⟩
  · rename_i cs ds
    obtain ⟨h1, h2⟩ := fitVs_ok hok hIJ cs ds f f' h
    refine ⟨h1, fun g u hu => ?_⟩
    simp only [VR] at hu ⊢
    obtain ⟨b, off, rfl, hu⟩ := hu
    exact ⟨b, off, rfl, (h2 g).2 b off hu⟩
  · rename_i m lo len
    split at h <;> (try (cases h; done))
    rename_i f1 hb
    simp only [Option.some.injEq] at h; subst h
    obtain ⟨m1, k1⟩ := bindKey_ok hb
    refine ⟨m1.trans (.add _ _), fun g u hu => ?_⟩
    have hy := g.add
    have hs := (g.of (.add _ _)).map _ _ k1
    simp only [VR] at hu ⊢
    rw [hs]
    exact ⟨hu, hy⟩
  · rename_i n lo len m lo' len'
    split at h <;> (try (cases h; done))
    rename_i f1 hb
    simp only [Option.some.injEq] at h; subst h
    obtain ⟨m1, k1⟩ := bindKey_ok hb
    refine ⟨m1.trans (.add _ _), fun g u hu => ?_⟩
    have hy := g.add
    have hs := (g.of (.add _ _)).map _ _ k1
    simp only [VR] at hu ⊢
    rw [hs, ← hy.1, ← hy.2]
    exact hu
  · rename_i n lo len e' ys
    split at h <;> (try (cases h; done))
    · rename_i nn e xs hm
      split at h <;> (try (cases h; done))
      rename_i he
      have he := shEqs_ok he
      subst he
      simp only [Option.some.injEq] at h; subst h
      refine ⟨.frozAdd _ _ _, fun g u hu => ?_⟩
      have hy : lo () + len () ≤ (xs ()).length ∧ ((xs ()).drop (lo ())).take (len ()) = ys () := g.vc _ (List.mem_append_right _ (List.mem_singleton.2 rfl))
      obtain ⟨p, hp, hr⟩ := ok_row hok (.inl hm)
      simp only [VR] at hu ⊢
      refine ⟨?_, by simp⟩
      rw [← hy.2]
      exact row_as_slice hp hr hu hy.1 hIJ fun q hq => g.froz _ ⟨n, List.mem_append_right _ (List.mem_singleton.2 rfl), q, by rw [hp, hq], rfl⟩
    · rename_i nn e xs hm
      split at h <;> (try (cases h; done))
      rename_i he
      have he := shEqs_ok he
      subst he
      simp only [Option.some.injEq] at h; subst h
      refine ⟨.frozAdd _ _ _, fun g u hu => ?_⟩
      have hy : lo () + len () ≤ (xs ()).length ∧ ((xs ()).drop (lo ())).take (len ()) = ys () := g.vc _ (List.mem_append_right _ (List.mem_singleton.2 rfl))
      obtain ⟨p, hp, hr⟩ := ok_row hok (.inr hm)
      simp only [VR] at hu ⊢
      refine ⟨?_, by simp⟩
      rw [← hy.2]
      exact row_as_slice hp hr hu hy.1 hIJ fun q hq => g.froz _ ⟨n, List.mem_append_right _ (List.mem_singleton.2 rfl), q, by rw [hp, hq], rfl⟩
  · rename_i n off m off'
    split at h <;> (try (cases h; done))
    rename_i ho
    have ho := Nat.eq_of_beq_eq_true ho
    subst ho
    obtain ⟨m1, k1⟩ := bindKey_ok h
    refine ⟨m1, fun g u hu => ?_⟩
    have hs := g.map _ _ k1
    simp only [VR] at hu ⊢
    rw [hs]
    exact hu
  · rename_i cs ds
    obtain ⟨h1, h2⟩ := fitVs_ok hok hIJ cs ds f f' h
    refine ⟨h1, fun g u hu => ?_⟩
    simp only [VR] at hu ⊢
    obtain ⟨us, rfl, hu⟩ := hu
    exact ⟨us, rfl, (h2 g).1 _ hu⟩
  · rename_i cs ds
    obtain ⟨h1, h2⟩ := fitVs_ok hok hIJ cs ds f f' h
    refine ⟨h1, fun g u hu => ?_⟩
    simp only [VR] at hu ⊢
    obtain ⟨us, rfl, hu⟩ := hu
    exact ⟨us, rfl, (h2 g).1 _ hu⟩
  · rename_i g0 cs g1 ds
    split at h <;> (try (cases h; done))
    rename_i hg
    have hg := Nat.eq_of_beq_eq_true hg
    subst hg
    obtain ⟨h1, h2⟩ := fitVs_ok hok hIJ cs ds f f' h
    refine ⟨h1, fun g u hu => ?_⟩
    simp only [VR] at hu ⊢
    obtain ⟨us, rfl, hu⟩ := hu
    exact ⟨us, rfl, (h2 g).1 _ hu⟩
  · cases h
theorem fitVs_ok (hok : Ok w I σ M) (hIJ : ∀ b, I b → J b) : ∀ (vs vs' : List AV) (f f' : Fs), fitVs M vs vs' f = some f' → Mono f f' ∧ (Good σ τ J f' → (∀ us, VRs w I σ vs us → VRs w J τ vs' us) ∧ ∀ b off, VRat w I σ vs b off → VRat w J τ vs' b off)
  | [], [], f, f', h => by
    simp only [fitVs, Option.some.injEq] at h; subst h
    exact ⟨.refl _, fun _ => ⟨fun us hu => by simpa only [VRs] using hu, fun _ _ _ => by simp only [VRat]⟩⟩
  | [], _ :: _, _, _, h => by simp [fitVs] at h
  | _ :: _, [], _, _, h => by simp [fitVs] at h
  | v :: vs, v' :: vs', f, f', h => by
    simp only [fitVs] at h
    split at h <;> (try (cases h; done))
    rename_i f1 hf1
    obtain ⟨a1, a2⟩ := fitV_ok hok hIJ v v' f f1 hf1
    obtain ⟨b1, b2⟩ := fitVs_ok hok hIJ vs vs' f1 f' h
    refine ⟨a1.trans b1, fun g => ⟨fun us hu => ?_, fun b off hu => ?_⟩⟩
    · simp only [VRs] at hu ⊢
      obtain ⟨u, us', rfl, hu, hus⟩ := hu
      exact ⟨u, us', rfl, a2 (g.of b1) u hu, (b2 g).1 us' hus⟩
    · simp only [VRat] at hu ⊢
      obtain ⟨⟨hb, u, hu1, hu2⟩, hus⟩ := hu
      exact ⟨⟨hIJ b hb, u, hu1, a2 (g.of b1) u hu2⟩, (b2 g).2 b (off + 1) hus⟩
end
end
end Go.Am
