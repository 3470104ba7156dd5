/- One operation: memory that is written. -/
import Derived.Test.YtckgeadidjmpcaaAmOps5
namespace Go.Am
set_option linter.all false
set_option linter.deprecated false
section
variable {P : Program} {o : Oper} {a : Act} {w w' : World} {I : Nat → Prop} {σ : Sig} {M : MS} {key : Nat} {env : List AV} {T : TT}

theorem mget_mset (M : MS) (k : Nat) (x : MObj) (j : Nat) : mget (mset M k x) j = if k = j then some x else mget M j := by
  induction M with
  | nil =>
    simp only [mset, mget]
    split
    · rename_i h; rw [if_pos (Nat.eq_of_beq_eq_true h)]
    · rename_i h; rw [if_neg (Nat.ne_of_beq_eq_false h)]
  | cons p M ih =>
    obtain ⟨k', y⟩ := p
    simp only [mset]
    split
    · rename_i h
      have h := Nat.eq_of_beq_eq_true h
      subst h
      simp only [mget]
      split
      · rename_i h; rw [if_pos (Nat.eq_of_beq_eq_true h)]
      · rename_i h; rw [if_neg (Nat.ne_of_beq_eq_false h)]
    · rename_i h
      have h := Nat.ne_of_beq_eq_false h
      simp only [mget, ih]
      split
      · rename_i h2
        have h2 := Nat.eq_of_beq_eq_true h2
        subst h2
        rw [if_neg (fun e => h e.symm)]
      · rfl
theorem mget_mdel (M : MS) (k j : Nat) : mget (mdel M k) j = if k = j then none else mget M j := by
  induction M with
  | nil => simp [mdel, mget]
  | cons p M ih =>
    obtain ⟨k', y⟩ := p
    simp only [mdel]
    split
    · rename_i h
      have h := Nat.eq_of_beq_eq_true h
      subst h
      rw [ih]
      split
      · rfl
      · rename_i e
        simp only [mget]
        split
        · rename_i h2; exact (e (Nat.eq_of_beq_eq_true h2)).elim
        · rfl
    · rename_i h
      have h := Nat.ne_of_beq_eq_false h
      simp only [mget, ih]
      split
      · rename_i h2
        have h2 := Nat.eq_of_beq_eq_true h2
        subst h2
        rw [if_neg (fun e => h e.symm)]
      · rfl
def Sig.upd (σ : Sig) (k : Nat) (p : Option Pl) : Sig := fun j => if j = k then some p else σ j
theorem Sig.upd_same (σ : Sig) (k : Nat) (p : Option Pl) : σ.upd k p k = some p := by simp [Sig.upd]
theorem Sig.upd_other (σ : Sig) {k j : Nat} (p : Option Pl) (h : j ≠ k) : σ.upd k p j = σ j := by simp [Sig.upd, h]
theorem Ok.unset (h : Ok w I σ M) {k : Nat} (hk : σ k = none) : mget M k = none := by
  cases hm : mget M k with
  | none => rfl
  | some x =>
    obtain ⟨p, hp, _⟩ := h.obj k x hm
    rw [hk] at hp
    cases hp
theorem Ok.blk_lt (h : Ok w I σ M) {b : Nat} (hb : Owned σ M b) : b < w.heap.size := by
  obtain ⟨k, x, p, hm, _, hs, rfl⟩ := hb
  obtain ⟨q, hq, ho⟩ := h.obj k x hm
  rw [hs] at hq
  cases hq
  have key : ∀ {y : Obj}, w.heap[p.b]? = some y → p.b < w.heap.size := fun {y} e => (Array.getElem?_eq_some_iff.1 e).1
  cases x with
  | row nn e xs => obtain ⟨_, _, _, hh, _⟩ := ho; exact key hh
  | imm nn e xs => obtain ⟨⟨_, _, _, hh, _⟩, _⟩ := ho; exact key hh
  | obj cs => obtain ⟨_, _, _, hh, _⟩ := ho; exact key hh
/-- a world with one block more, and nothing else turned (but for draws) -/
structure More (w w' : World) (x : Obj) : Prop where
  os : w'.os = w.os
  tape : w'.tape = w.tape
  output : w'.output = w.output
  heap : w'.heap = w.heap.push x
theorem More.alloc (w : World) (x : Obj) : More w (w.alloc x) x := ⟨rfl, rfl, rfl, rfl⟩
theorem More.size {x : Obj} (h : More w w' x) : w'.heap.size = w.heap.size + 1 := by rw [h.heap]; simp
theorem More.old {x : Obj} (h : More w w' x) {b : Nat} (hb : b < w.heap.size) : w'.heap[b]? = w.heap[b]? := by
  rw [h.heap, Array.getElem?_push, if_neg (by omega)]
theorem More.new {x : Obj} (h : More w w' x) : w'.heap[w.heap.size]? = some x := by rw [h.heap]; simp
/-- a new object -/
theorem Post.alloc (hok : Ok w I σ M) (hfree : σ key = none) {x : Obj} (hm : More w w' x) {cap sz : Nat} {y : MObj} {val : AV} {v : Value} (hy : owns y)
    (ho : OR w' I (σ.upd key (some ⟨w.heap.size, cap, sz⟩)) (some ⟨w.heap.size, cap, sz⟩) y) (hv : VR w' I (σ.upd key (some ⟨w.heap.size, cap, sz⟩)) val v) :
    Post w I σ M key val (mset M key y) v w' := by
  have hun := hok.unset hfree
  have hsig : ∀ k p, σ k = some p → σ.upd key (some ⟨w.heap.size, cap, sz⟩) k = some p := fun k p h => by
    rw [Sig.upd_other _ _ (by rintro rfl; rw [hfree] at h; cases h)]; exact h
  have K : Keep w I σ w' I (σ.upd key (some ⟨w.heap.size, cap, sz⟩)) := ⟨fun b hb => hm.old (hok.lt b hb), fun b hb => hb, hsig⟩
  have hown : ∀ b, Owned (σ.upd key (some ⟨w.heap.size, cap, sz⟩)) (mset M key y) b → b = w.heap.size ∨ Owned σ M b := by
    rintro b ⟨k, z, p, hk, hz, hs, rfl⟩
    rw [mget_mset] at hk
    split at hk
    · rename_i e; subst e
      rw [Sig.upd_same] at hs
      cases hs
      exact .inl rfl
    · rename_i e
      rw [Sig.upd_other _ _ (fun h => e h.symm)] at hs
      exact .inr ⟨k, z, p, hk, hz, hs, rfl⟩
  refine ⟨I, σ.upd key (some ⟨w.heap.size, cap, sz⟩), hv, ⟨fun b hb => by rw [hm.size]; have := hok.lt b hb; omega, fun k z hk => ?_, fun b hb hi => ?_, ?_⟩, ⟨hm.os, hm.tape, hm.output, by rw [hm.size]; omega, fun b hb _ => hm.old hb, fun _ h => h, fun _ h => .inl h, fun b hb => ?_, hsig⟩, fun k => ?_⟩
  · rw [mget_mset] at hk
    split at hk
    · rename_i e; subst e
      cases hk
      exact ⟨_, Sig.upd_same _ _ _, ho⟩
    · obtain ⟨p, hp, ho'⟩ := hok.obj k z hk
      refine ⟨p, hsig k p hp, OR.keep K (fun q hq => ?_) ho'⟩
      subst hq
      apply hm.old
      cases z with
      | row nn e xs => obtain ⟨_, _, _, hh, _⟩ := ho'; exact (Array.getElem?_eq_some_iff.1 hh).1
      | imm nn e xs => obtain ⟨⟨_, _, _, hh, _⟩, _⟩ := ho'; exact (Array.getElem?_eq_some_iff.1 hh).1
      | obj cs => obtain ⟨_, _, _, hh, _⟩ := ho'; exact (Array.getElem?_eq_some_iff.1 hh).1
  · have := hok.lt b hi
    rcases hown b hb with rfl | h
    · omega
    · exact hok.sep b h hi
  · intro k k' z z' p p' h1 h2 o1 o2 s1 s2 e
    rw [mget_mset] at h1 h2
    split at h1 <;> split at h2
    · rename_i e1 e2; rw [← e1, ← e2]
    · rename_i e1 e2
      subst e1
      rw [Sig.upd_same] at s1
      cases s1
      rw [Sig.upd_other _ _ (fun h => e2 h.symm)] at s2
      have := hok.blk_lt ⟨k', z', p', h2, o2, s2, rfl⟩
      simp only at e
      omega
    · rename_i e1 e2
      subst e2
      rw [Sig.upd_same] at s2
      cases s2
      rw [Sig.upd_other _ _ (fun h => e1 h.symm)] at s1
      have := hok.blk_lt ⟨k, z, p, h1, o1, s1, rfl⟩
      simp only at e
      omega
    · rename_i e1 e2
      rw [Sig.upd_other _ _ (fun h => e1 h.symm)] at s1
      rw [Sig.upd_other _ _ (fun h => e2 h.symm)] at s2
      exact hok.inj k k' z z' p p' h1 h2 o1 o2 s1 s2 e
  · rcases hown b hb with rfl | h
    · exact .inr (Nat.le_refl _)
    · exact .inl h
  · by_cases h : k = key
    · exact .inr (by omega)
    · exact .inl (Sig.upd_other _ _ h)
/-- one block's content turned -/
structure Turned (w w' : World) (b : Nat) : Prop where
  os : w'.os = w.os
  tape : w'.tape = w.tape
  output : w'.output = w.output
  size : w'.heap.size = w.heap.size
  other : ∀ k, k ≠ b → w'.heap[k]? = w.heap[k]?
theorem Post.turned (hok : Ok w I σ M) {k : Nat} {x y : MObj} {p : Pl} (hx : mget M k = some x) (hxo : owns x) (hp : σ k = some (some p)) (ht : Turned w w' p.b) {val : AV} {v : Value} (hy : owns y)
    (ho : OR w' I σ (some p) y) (hv : VR w' I σ val v) : Post w I σ M key val (mset M k y) v w' := by
  have hk : Owned σ M p.b := ⟨k, x, p, hx, hxo, hp, rfl⟩
  have K : Keep w I σ w' I σ := ⟨fun b hb => ht.other b (by rintro rfl; exact hok.sep _ hk hb), fun b hb => hb, fun _ _ h => h⟩
  have hown : ∀ b, Owned σ (mset M k y) b → Owned σ M b := by
    rintro b ⟨j, z, q, hj, hz, hs, rfl⟩
    rw [mget_mset] at hj
    split at hj
    · rename_i e; subst e
      rw [hp] at hs
      cases hs
      exact hk
    · exact ⟨j, z, q, hj, hz, hs, rfl⟩
  refine ⟨I, σ, hv, ⟨fun b hb => by rw [ht.size]; exact hok.lt b hb, fun j z hj => ?_, fun b hb hi => hok.sep b (hown b hb) hi, ?_⟩,
    ⟨ht.os, ht.tape, ht.output, by rw [ht.size]; omega, fun b _ hb => ht.other b (by rintro rfl; exact hb hk), fun _ h => h, fun _ h => .inl h, fun b hb => .inl (hown b hb), fun _ _ h => h⟩, fun _ => .inl rfl⟩
  · rw [mget_mset] at hj
    split at hj
    · rename_i e; subst e
      cases hj
      exact ⟨_, hp, ho⟩
    · rename_i e
      obtain ⟨q, hq, ho'⟩ := hok.obj j z hj
      refine ⟨q, hq, OR.keep K (fun r hr => ?_) ho'⟩
      subst hr
      apply ht.other
      intro e'
      cases z with
      | imm nn e2 xs => exact hok.sep _ hk (e' ▸ ho'.2)
      | row nn e2 xs => exact e (hok.inj k j x _ p r hx hj hxo trivial hp hq e'.symm)
      | obj cs => exact e (hok.inj k j x _ p r hx hj hxo trivial hp hq e'.symm)
  · intro j j' z z' q q' h1 h2 o1 o2 s1 s2 e
    rw [mget_mset] at h1 h2
    split at h1 <;> split at h2
    · rename_i e1 e2; rw [← e1, ← e2]
    · rename_i e1 e2
      subst e1
      exact hok.inj k j' x z' q q' hx h2 hxo o2 s1 s2 e
    · rename_i e1 e2
      subst e2
      exact hok.inj j k z x q q' h1 hx o1 hxo s1 s2 e
    · exact hok.inj j j' z z' q q' h1 h2 o1 o2 s1 s2 e
end
end Go.Am
