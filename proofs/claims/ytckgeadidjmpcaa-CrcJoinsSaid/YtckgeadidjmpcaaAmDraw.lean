/- Regions that draw their order: what is shown in the text's order holds in every order. -/
import Derived.Test.YtckgeadidjmpcaaAmLoc
import Derived.Test.YtckgeadidjmpcaaAmFit2
namespace Go.Am
set_option linter.all false
set_option linter.deprecated false
section
variable {P : Program} {w w' w0 : World} {I I' I0 : Nat → Prop} {σ σ' σ0 : Sig} {M M' M0 : MS} {T : TT} {G : Ctx}

structure Ent where
  dst : Option Nat
  val : AV
  rd : List Nat
  upd : List (Nat × Option MObj)
abbrev PS := List AV × MS
def Ent.app (x : Ent) (s : PS) : PS := (lset? s.1 x.dst x.val, mapply s.2 x.upd)
def runS (S : Nat → Bool) : List Ent → Nat → PS → PS
  | [], _, s => s
  | x :: xs, i, s => runS S xs (i + 1) (if S i then x.app s else s)

theorem mapply_not {k : Nat} : ∀ {us : List (Nat × Option MObj)} {M : MS}, k ∉ ukeys us → mget (mapply M us) k = mget M k
  | [], _, _ => rfl
  | (j, some o) :: us, M, h => by
    simp only [ukeys, List.mem_cons, not_or] at h
    simp only [mapply]
    rw [mapply_not h.2, mget_mset, if_neg (fun e => h.1 e.symm)]
  | (j, none) :: us, M, h => by
    simp only [ukeys, List.mem_cons, not_or] at h
    simp only [mapply]
    rw [mapply_not h.2, mget_mdel, if_neg (fun e => h.1 e.symm)]
theorem mapply_congr {k : Nat} : ∀ {us : List (Nat × Option MObj)} {M N : MS}, (k ∉ ukeys us → mget M k = mget N k) → mget (mapply M us) k = mget (mapply N us) k
  | [], _, _, h => h (by simp [ukeys])
  | (j, some o) :: us, M, N, h => by
    simp only [mapply]
    refine mapply_congr fun hk => ?_
    rw [mget_mset, mget_mset]
    by_cases e : j = k
    · rw [if_pos e, if_pos e]
    · rw [if_neg e, if_neg e]
      exact h (by simp only [ukeys, List.mem_cons, not_or]; exact ⟨fun q => e q.symm, hk⟩)
  | (j, none) :: us, M, N, h => by
    simp only [mapply]
    refine mapply_congr fun hk => ?_
    rw [mget_mdel, mget_mdel]
    by_cases e : j = k
    · rw [if_pos e, if_pos e]
    · rw [if_neg e, if_neg e]
      exact h (by simp only [ukeys, List.mem_cons, not_or]; exact ⟨fun q => e q.symm, hk⟩)
theorem runS_len (S : Nat → Bool) : ∀ (xs : List Ent) (i : Nat) (s : PS), (runS S xs i s).1.length = s.1.length
  | [], _, _ => rfl
  | x :: xs, i, s => by
    rw [runS, runS_len S xs]
    split
    · exact lset?_length _ _ _
    · rfl
theorem runS_slot {S S' : Nat → Bool} {t : Nat} : ∀ (xs : List Ent) (i : Nat) (s s' : PS), s.1.length = s'.1.length → lget s.1 t = lget s'.1 t →
    (∀ j x, xs[j]? = some x → x.dst = some t → S (i + j) = S' (i + j)) → lget (runS S xs i s).1 t = lget (runS S' xs i s').1 t
  | [], _, _, _, _, h, _ => h
  | x :: xs, i, s, s', hl, h, hs => by
    simp only [runS]
    have h0 : x.dst = some t → S i = S' i := fun hd => by have := hs 0 x rfl hd; simpa using this
    refine runS_slot xs (i + 1) _ _ ?_ ?_ fun j y hj hy => by
      have := hs (j + 1) y (by simpa using hj) hy
      rwa [show i + 1 + j = i + (j + 1) by omega]
    · split <;> split <;> simp [Ent.app, lset?_length, hl]
    · by_cases hd : x.dst = some t
      · rw [h0 hd]
        split
        · simp only [Ent.app, lset?_get, hl, h]
        · exact h
      · have e : ∀ s : PS, lget (x.app s).1 t = lget s.1 t := fun s => by simp only [Ent.app, lset?_get]; rw [if_neg (fun q => hd q.1)]
        split <;> split <;> simp only [e, h]
theorem runS_key {S S' : Nat → Bool} {k : Nat} : ∀ (xs : List Ent) (i : Nat) (s s' : PS), mget s.2 k = mget s'.2 k →
    (∀ j x, xs[j]? = some x → k ∈ ukeys x.upd → S (i + j) = S' (i + j)) → mget (runS S xs i s).2 k = mget (runS S' xs i s').2 k
  | [], _, _, _, h, _ => h
  | x :: xs, i, s, s', h, hs => by
    simp only [runS]
    have h0 : k ∈ ukeys x.upd → S i = S' i := fun hd => by have := hs 0 x rfl hd; simpa using this
    refine runS_key xs (i + 1) _ _ ?_ fun j y hj hy => by
      have := hs (j + 1) y (by simpa using hj) hy
      rwa [show i + 1 + j = i + (j + 1) by omega]
    by_cases hd : k ∈ ukeys x.upd
    · rw [h0 hd]
      split
      · exact mapply_congr fun _ => h
      · exact h
    · have e : ∀ s : PS, mget (x.app s).2 k = mget s.2 k := fun s => mapply_not hd
      split <;> split <;> simp only [e, h]
theorem runS_all {S S' : Nat → Bool} : ∀ (xs : List Ent) (i : Nat) (s : PS), (∀ j, j < xs.length → S (i + j) = S' (i + j)) → runS S xs i s = runS S' xs i s
  | [], _, _, _ => rfl
  | x :: xs, i, s, h => by
    simp only [runS]
    have h0 := h 0 (by simp)
    simp only [Nat.add_zero] at h0
    rw [h0]
    exact runS_all xs (i + 1) _ fun j hj => by
      have := h (j + 1) (by simpa using hj)
      rwa [show i + 1 + j = i + (j + 1) by omega]
theorem runS_none {S : Nat → Bool} : ∀ (xs : List Ent) (i : Nat) (s : PS), (∀ j, j < xs.length → S (i + j) = false) → runS S xs i s = s
  | [], _, _, _ => rfl
  | x :: xs, i, s, h => by
    simp only [runS]
    have h0 := h 0 (by simp)
    simp only [Nat.add_zero] at h0
    rw [h0]
    exact runS_none xs (i + 1) _ fun j hj => by
      have := h (j + 1) (by simpa using hj)
      rwa [show i + 1 + j = i + (j + 1) by omega]
theorem runS_append {S : Nat → Bool} : ∀ (xs ys : List Ent) (i : Nat) (s : PS), runS S (xs ++ ys) i s = runS S ys (i + xs.length) (runS S xs i s)
  | [], _, _, _ => rfl
  | x :: xs, ys, i, s => by
    simp only [List.cons_append, runS, List.length_cons]
    rw [runS_append xs ys, show i + 1 + xs.length = i + (xs.length + 1) by omega]
/-- the state ahead of the i-th, in the text's order -/
theorem runS_take (xs : List Ent) (i : Nat) (s : PS) : runS (fun _ => true) (xs.take i) 0 s = runS (fun j => decide (j < i)) xs 0 s := by
  conv => rhs; rw [← List.take_append_drop i xs]
  rw [runS_append, runS_none (List.drop i xs)]
  · exact runS_all _ _ _ fun j hj => by
      rw [List.length_take] at hj
      simp; omega
  · intro j hj
    rw [List.length_drop] at hj
    rw [List.length_take, Nat.min_eq_left (by omega)]
    simp
/-- one more that is done, and none behind it that writes where it writes -/
theorem runS_add {S : Nat → Bool} {xs : List Ent} {i : Nat} {x : Ent} {s : PS} (hx : xs[i]? = some x) (hi : S i = false)
    (h1 : ∀ j y, xs[j]? = some y → i < j → S j = true → ∀ t, x.dst = some t → y.dst ≠ some t) (h2 : ∀ j y, xs[j]? = some y → i < j → S j = true → ∀ k ∈ ukeys x.upd, k ∉ ukeys y.upd) :
    (∀ t, lget (runS (fun j => S j || decide (j = i)) xs 0 s).1 t = lget (x.app (runS S xs 0 s)).1 t) ∧ ∀ k, mget (runS (fun j => S j || decide (j = i)) xs 0 s).2 k = mget (x.app (runS S xs 0 s)).2 k := by
  obtain ⟨hil, hxe⟩ := List.getElem?_eq_some_iff.1 hx
  have hsplit : xs = xs.take i ++ x :: xs.drop (i + 1) := by rw [← hxe, ← List.drop_eq_getElem_cons hil, List.take_append_drop]
  have hlen : (xs.take i).length = i := by rw [List.length_take]; omega
  have hpost : ∀ j y, (xs.drop (i + 1))[j]? = some y → xs[i + 1 + j]? = some y := fun j y h => by rw [List.getElem?_drop] at h; exact h
  obtain ⟨S', hS'⟩ : ∃ S' : Nat → Bool, S' = fun j => S j || decide (j = i) := ⟨_, rfl⟩
  rw [← hS']
  have e1 : ∀ s, runS S' xs 0 s = runS S' (xs.drop (i + 1)) (i + 1) (x.app (runS S' (xs.take i) 0 s)) := fun s => by
    conv => lhs; rw [hsplit]
    rw [runS_append, hlen, Nat.zero_add, runS, hS']
    simp
  have e2 : runS S' (xs.take i) 0 s = runS S (xs.take i) 0 s := runS_all _ _ _ fun j hj => by
    rw [hlen] at hj
    simp [hS']; omega
  have e3 : ∀ s, runS S xs 0 s = runS S (xs.drop (i + 1)) (i + 1) (runS S (xs.take i) 0 s) := fun s => by
    conv => lhs; rw [hsplit]
    rw [runS_append, hlen, Nat.zero_add, runS, hi]
    simp
  have e4 : ∀ s, runS S' (xs.drop (i + 1)) (i + 1) s = runS S (xs.drop (i + 1)) (i + 1) s := fun s => runS_all _ _ _ fun j hj => by
    simp [hS']; omega
  rw [e1, e2, e3, e4]
  obtain ⟨s1, hs1⟩ : ∃ s1, s1 = runS S (xs.take i) 0 s := ⟨_, rfl⟩
  rw [← hs1]
  refine ⟨fun t => ?_, fun k => ?_⟩
  · by_cases hd : x.dst = some t
    · have a1 : lget (runS S (xs.drop (i + 1)) (i + 1) (x.app s1)).1 t = lget (x.app s1).1 t := by
        rw [runS_slot (S' := fun _ => false) _ _ _ (x.app s1) rfl rfl fun j y hj hy => ?_, runS_none _ _ _ fun _ _ => rfl]
        cases hS : S (i + 1 + j) with
        | false => rfl
        | true => exact (h1 _ y (hpost j y hj) (by omega) hS t hd hy).elim
      rw [a1]
      simp only [Ent.app, lset?_get, runS_len, hd, true_and]
      by_cases hl : t < s1.1.length
      · rw [if_pos hl, if_pos hl]
      · rw [if_neg hl, if_neg hl, lget_eq, lget_eq, List.getD, List.getD, List.getElem?_eq_none (by omega), List.getElem?_eq_none (by rw [runS_len]; omega)]
    · have a2 : ∀ s : PS, lget (x.app s).1 t = lget s.1 t := fun s => by simp only [Ent.app, lset?_get]; rw [if_neg (fun q => hd q.1)]
      rw [a2]
      exact runS_slot _ _ _ _ (by simp [Ent.app, lset?_length]) (a2 _) fun _ _ _ _ => rfl
  · by_cases hk : k ∈ ukeys x.upd
    · have a1 : mget (runS S (xs.drop (i + 1)) (i + 1) (x.app s1)).2 k = mget (x.app s1).2 k := by
        rw [runS_key (S' := fun _ => false) _ _ _ (x.app s1) rfl fun j y hj hy => ?_, runS_none _ _ _ fun _ _ => rfl]
        cases hS : S (i + 1 + j) with
        | false => rfl
        | true => exact (h2 _ y (hpost j y hj) (by omega) hS k hk hy).elim
      rw [a1]
      exact mapply_congr fun h => (h hk).elim
    · have a2 : ∀ s : PS, mget (x.app s).2 k = mget s.2 k := fun s => mapply_not hk
      rw [a2]
      exact runS_key _ _ _ _ (a2 _) fun _ _ _ _ => rfl
end
end Go.Am
