/- One operation: rows: append, copy. -/
import Derived.Test.YtckgeadidjmpcaaAmOps8
namespace Go.Am
set_option linter.all false
set_option linter.deprecated false
section
variable {P : Program} {o : Oper} {a : Act} {w w' : World} {I I' : Nat → Prop} {σ : Sig} {M : MS} {key : Nat} {env : List AV} {T : TT}

def DatL (w : World) (I : Nat → Prop) : List Sh → Nat → List D → List Value → Prop
  | [], _, _, cs => cs = []
  | s :: ss, j, ds, cs => ∃ u cs', cs = u :: cs' ∧ Dat w I s (lk ds j) u ∧ DatL w I ss (j + 1) ds cs'
theorem DatL.length : ∀ {e : List Sh} {j : Nat} {ds : List D} {cs : List Value}, DatL w I e j ds cs → cs.length = e.length
  | [], _, _, _, h => by simp only [DatL] at h; simp [h]
  | s :: ss, j, ds, cs, h => by
    simp only [DatL] at h
    obtain ⟨u, cs', rfl, _, h⟩ := h
    simp [DatL.length h]
theorem DatL.keep (h1 : ∀ b, I b → w'.heap[b]? = w.heap[b]?) (h2 : ∀ b, I b → I' b) : ∀ {e : List Sh} {j : Nat} {ds : List D} {cs : List Value}, DatL w I e j ds cs → DatL w' I' e j ds cs
  | [], _, _, _, h => h
  | s :: ss, j, ds, cs, h => by
    simp only [DatL] at h ⊢
    obtain ⟨u, cs', rfl, hd, h⟩ := h
    exact ⟨u, cs', rfl, Dat.keep h1 h2 s _ u hd, DatL.keep h1 h2 h⟩
theorem DatL.ones : ∀ {e : List Sh} {j : Nat} {ds : List D} {cs : List Value}, DatL w I e j ds cs → ∀ c ∈ cs, c.oneCell' = true
  | [], _, _, _, h => by simp only [DatL] at h; simp [h]
  | s :: ss, j, ds, cs, h => by
    simp only [DatL] at h
    obtain ⟨u, cs', rfl, hd, h⟩ := h
    intro c hc
    rcases List.mem_cons.1 hc with rfl | hc
    · cases s with
      | int k => simp only [Dat] at hd; rw [hd.1]; rfl
      | bool => simp only [Dat] at hd; rw [hd]; rfl
      | str => simp only [Dat] at hd; obtain ⟨_, rfl, _⟩ := hd; rfl
      | slice e => simp only [Dat] at hd; obtain ⟨_, _, _, rfl, _⟩ := hd; rfl
      | ptr e => simp [Dat] at hd
      | other => simp [Dat] at hd
    · exact DatL.ones h c hc
theorem DatC.toL {b : Nat} : ∀ (e : List Sh) (j : Nat) (ds : List D) (o : Nat), DatC w I e j ds b o → ∃ cs, DatL w I e j ds cs ∧ ∀ (i : Nat) (c : Value), cs[i]? = some c → w.cell? ⟨b, o + j + i, none⟩ = some c
  | [], _, _, _, _ => ⟨[], rfl, by simp⟩
  | s :: ss, j, ds, o, h => by
    simp only [DatC] at h
    obtain ⟨⟨u, hu, hd⟩, h⟩ := h
    obtain ⟨cs, h1, h2⟩ := DatC.toL ss (j + 1) ds o h
    refine ⟨u :: cs, ⟨u, cs, rfl, hd, h1⟩, fun i c hc => ?_⟩
    cases i with
    | zero => simp at hc; subst hc; exact hu
    | succ i =>
      have := h2 i c (by simpa using hc)
      rwa [show o + (j + 1) + i = o + j + (i + 1) by omega] at this
theorem DatL.toC {b : Nat} : ∀ (e : List Sh) (j : Nat) (ds : List D) (o : Nat) (cs : List Value), DatL w I e j ds cs → (∀ (i : Nat) (c : Value), cs[i]? = some c → w.cell? ⟨b, o + j + i, none⟩ = some c) → DatC w I e j ds b o
  | [], _, _, _, _, _, _ => trivial
  | s :: ss, j, ds, o, cs, h, hc => by
    simp only [DatL] at h
    obtain ⟨u, cs', rfl, hd, h⟩ := h
    simp only [DatC]
    refine ⟨⟨u, by simpa using hc 0 u rfl, hd⟩, DatL.toC ss (j + 1) ds o cs' h fun i c hi => ?_⟩
    have := hc (i + 1) c (by simpa using hi)
    rwa [show o + j + (i + 1) = o + (j + 1) + i by omega] at this
/-- the cells of a row's elements -/
def RowL (w : World) (I : Nat → Prop) (e : List Sh) (xs : List (List D)) (cs : List Value) : Prop :=
  cs.length = xs.length * e.length ∧ ∀ i, i < xs.length → DatL w I e 0 (lk xs i) ((cs.drop (i * e.length)).take e.length)
theorem RowL.keep {e : List Sh} {xs : List (List D)} {cs : List Value} (h1 : ∀ b, I b → w'.heap[b]? = w.heap[b]?) (h2 : ∀ b, I b → I' b) (h : RowL w I e xs cs) : RowL w' I' e xs cs :=
  ⟨h.1, fun i hi => DatL.keep h1 h2 (h.2 i hi)⟩
theorem RowL.nil (e : List Sh) : RowL w I e [] [] := ⟨by simp, by simp⟩
theorem RowL.snoc {e : List Sh} {xs : List (List D)} {cs : List Value} {ds : List D} {us : List Value} (h : RowL w I e xs cs) (hd : DatL w I e 0 ds us) : RowL w I e (xs ++ [ds]) (cs ++ us) := by
  have hl := hd.length
  refine ⟨by simp [h.1, hl, Nat.add_mul], fun i hi => ?_⟩
  simp only [List.length_append, List.length_singleton] at hi
  by_cases h1 : i < xs.length
  · have e1 : lk (xs ++ [ds]) i = lk xs i := by simp only [lk, List.getD]; rw [List.getElem?_append_left h1]
    have hle : i * e.length + e.length ≤ cs.length := by
      rw [h.1, ← Nat.succ_mul]
      exact Nat.mul_le_mul_right _ h1
    rw [e1, List.drop_append_of_le_length (by omega), List.take_append_of_le_length (by simp; omega)]
    exact h.2 i h1
  · obtain rfl : i = xs.length := by omega
    have e1 : lk (xs ++ [ds]) xs.length = ds := by simp [lk, List.getD]
    rw [e1, ← h.1, List.drop_left, List.take_of_length_le (by omega)]
    exact hd
theorem RowL.append {e : List Sh} {xs : List (List D)} {cs : List Value} : ∀ {ys : List (List D)} {ds : List Value}, RowL w I e xs cs → RowL w I e ys ds → RowL w I e (xs ++ ys) (cs ++ ds) := by
  intro ys ds h h'
  refine ⟨by simp [h.1, h'.1, Nat.add_mul], fun i hi => ?_⟩
  simp only [List.length_append] at hi
  by_cases h1 : i < xs.length
  · have e1 : lk (xs ++ ys) i = lk xs i := by simp only [lk, List.getD]; rw [List.getElem?_append_left h1]
    have hle : i * e.length + e.length ≤ cs.length := by
      rw [h.1, ← Nat.succ_mul]
      exact Nat.mul_le_mul_right _ h1
    rw [e1, List.drop_append_of_le_length (by omega), List.take_append_of_le_length (by simp; omega)]
    exact h.2 i h1
  · have e1 : lk (xs ++ ys) i = lk ys (i - xs.length) := by simp only [lk, List.getD]; rw [List.getElem?_append_right (by omega)]
    have e2 : i * e.length = cs.length + (i - xs.length) * e.length := by
      rw [h.1, ← Nat.add_mul]
      congr 1
      omega
    rw [e1, e2, List.drop_append]
    rw [show cs.length + (i - xs.length) * e.length - cs.length = (i - xs.length) * e.length by omega]
    rw [List.drop_of_length_le (show cs.length ≤ cs.length + (i - xs.length) * e.length by omega), List.nil_append]
    exact h'.2 _ (by omega)
theorem RowL.take {e : List Sh} {xs : List (List D)} {cs : List Value} (n : Nat) (hn : n ≤ xs.length) (h : RowL w I e xs cs) : RowL w I e (xs.take n) (cs.take (n * e.length)) := by
  have hle : n * e.length ≤ xs.length * e.length := Nat.mul_le_mul_right _ hn
  refine ⟨by rw [List.length_take, List.length_take, h.1, Nat.min_eq_left hle, Nat.min_eq_left hn], fun i hi => ?_⟩
  simp only [List.length_take] at hi
  have e1 : lk (xs.take n) i = lk xs i := by simp only [lk, List.getD]; rw [List.getElem?_take, if_pos (by omega)]
  have h2 : i * e.length + e.length ≤ n * e.length := by
    rw [← Nat.succ_mul]
    exact Nat.mul_le_mul_right _ (by omega)
  rw [e1, List.drop_take, List.take_take, Nat.min_eq_left (by omega)]
  exact h.2 i (by omega)
theorem RowL.drop {e : List Sh} {xs : List (List D)} {cs : List Value} (n : Nat) (hn : n ≤ xs.length) (h : RowL w I e xs cs) : RowL w I e (xs.drop n) (cs.drop (n * e.length)) := by
  refine ⟨by rw [List.length_drop, List.length_drop, h.1, ← Nat.sub_mul], fun i hi => ?_⟩
  simp only [List.length_drop] at hi
  have e1 : lk (xs.drop n) i = lk xs (n + i) := by simp only [lk, List.getD]; rw [List.getElem?_drop]
  rw [e1, List.drop_drop, ← Nat.add_mul]
  exact h.2 (n + i) (by omega)
theorem RowL.ones {e : List Sh} (h0 : 0 < e.length) {xs : List (List D)} {cs : List Value} (h : RowL w I e xs cs) : ∀ c ∈ cs, c.oneCell' = true := by
  intro c hc
  obtain ⟨j, hj, rfl⟩ := List.mem_iff_getElem.1 hc
  have hq : j / e.length < xs.length := by
    rw [Nat.div_lt_iff_lt_mul h0, ← h.1]
    exact hj
  refine (h.2 _ hq).ones _ ?_
  refine List.mem_iff_getElem?.2 ⟨j % e.length, ?_⟩
  rw [List.getElem?_take, if_pos (Nat.mod_lt _ h0), List.getElem?_drop]
  rw [Nat.div_add_mod' j e.length]
  exact List.getElem?_eq_getElem hj
/-- a block whose first cells are these -/
theorem RowL.row {e : List Sh} {xs : List (List D)} {cs : List Value} {b : Nat} (h : RowL w I e xs cs) (hc : ∀ (j : Nat) (c : Value), cs[j]? = some c → w.cell? ⟨b, j, none⟩ = some c) : ∀ i, i < xs.length → DatC w I e 0 (lk xs i) b (i * e.length) := by
  intro i hi
  refine DatL.toC e 0 _ _ _ (h.2 i hi) fun k c hk => ?_
  rw [List.getElem?_take] at hk
  split at hk
  · rw [List.getElem?_drop] at hk
    exact hc _ c hk
  · cases hk
/-- the cells of elements that lie one behind the other -/
theorem snocInd {α : Type} {p : List α → Prop} (h0 : p []) (h1 : ∀ xs x, p xs → p (xs ++ [x])) : ∀ (n : Nat) (xs : List α), xs.length = n → p xs
  | 0, xs, h => by rw [List.eq_nil_of_length_eq_zero h]; exact h0
  | n + 1, xs, h => by
    have hne : xs ≠ [] := by rintro rfl; simp at h
    rw [← List.dropLast_concat_getLast hne]
    exact h1 _ _ (snocInd h0 h1 n _ (by simp [h]))
theorem RowL.of {e : List Sh} {b off : Nat} : ∀ (xs : List (List D)), (∀ i, i < xs.length → DatC w I e 0 (lk xs i) b (off + i * e.length)) → ∃ cs, RowL w I e xs cs ∧ ∀ (j : Nat) (c : Value), cs[j]? = some c → w.cell? ⟨b, off + j, none⟩ = some c := by
  intro xs
  refine snocInd (p := fun xs => (∀ i, i < xs.length → DatC w I e 0 (lk xs i) b (off + i * e.length)) → ∃ cs, RowL w I e xs cs ∧ ∀ (j : Nat) (c : Value), cs[j]? = some c → w.cell? ⟨b, off + j, none⟩ = some c) ?_ ?_ _ xs rfl
  · exact fun _ => ⟨[], .nil e, by simp⟩
  · intro xs x ih h
    obtain ⟨cs, h1, h2⟩ := ih fun i hi => by
      have := h i (by simp; omega)
      have e1 : lk (xs ++ [x]) i = lk xs i := by simp only [lk, List.getD]; rw [List.getElem?_append_left hi]
      rwa [e1] at this
    have h3 := h xs.length (by simp)
    have e1 : lk (xs ++ [x]) xs.length = x := by simp [lk, List.getD]
    rw [e1] at h3
    obtain ⟨us, h4, h5⟩ := DatC.toL e 0 x _ h3
    refine ⟨cs ++ us, h1.snoc h4, fun j c hj => ?_⟩
    by_cases hlt : j < cs.length
    · rw [List.getElem?_append_left hlt] at hj
      exact h2 j c hj
    · rw [List.getElem?_append_right (by omega)] at hj
      have := h5 _ c hj
      rw [← h1.1] at this
      rwa [show off + cs.length + 0 + (j - cs.length) = off + j by omega] at this
theorem elems_ok (hok : Ok w I σ M) {x : AV} {e : List Sh} {xs : Unit → List (List D)} {r : List Nat} {vc : List (Unit → Prop)} {u : Value} (h : elems M x = some (e, xs, r, vc)) (hvc : ∀ p ∈ vc, p ()) (hx : VR w I σ x u) :
    ∃ ad len cap cs, u = .slice ad len cap ∧ len = (xs ()).length ∧ len ≤ maxLen ∧ 0 < e.length ∧ RowL w I e (xs ()) cs ∧ (len = 0 ∨ ∃ b off, ad = some ⟨b, off, none⟩ ∧ ∀ (j : Nat) (c : Value), cs[j]? = some c → w.cell? ⟨b, off + j, none⟩ = some c) := by
  unfold elems at h
  split at h <;> (try (cases h; done))
  · rename_i nn e' xs'
    simp only [Option.some.injEq, Prod.mk.injEq] at h
    obtain ⟨rfl, rfl, rfl, rfl⟩ := h
    simp only [VR] at hx
    have hx := hx.1
    simp only [Dat, D.toList] at hx
    obtain ⟨ad, len, cap, rfl, h1, h2, h3, h4, h5, h6⟩ := hx
    by_cases hl : len = 0
    · have e1 : xs' () = [] := List.eq_nil_of_length_eq_zero (by omega)
      exact ⟨ad, len, cap, [], rfl, h1, by omega, h5, by rw [e1]; exact .nil _, .inl hl⟩
    · obtain ⟨b, off, rfl, hb, hd⟩ := h6 0 (by omega)
      obtain ⟨cs, g1, g2⟩ := RowL.of (w := w) (I := I) (e := e') (b := b) (off := off) (xs' ()) fun i hi => by
        obtain ⟨b', off', e1, hb', hd'⟩ := h6 i (by omega)
        simp only [Option.some.injEq, Addr.mk.injEq, and_true] at e1
        obtain ⟨rfl, rfl⟩ := e1
        exact hd'
      exact ⟨_, len, cap, cs, rfl, h1, by omega, h5, g1, .inr ⟨b, off, rfl, g2⟩⟩
  · rename_i n lo len
    have key : ∀ (nn : Bool) (e' : List Sh) (xs' : Unit → List (List D)), (mget M n = some (.row nn e' xs') ∨ mget M n = some (.imm nn e' xs')) → lo () + len () ≤ (xs' ()).length →
        ∃ ad ln cap cs, u = .slice ad ln cap ∧ ln = (((xs' ()).drop (lo ())).take (len ())).length ∧ ln ≤ maxLen ∧ 0 < e'.length ∧ RowL w I e' (((xs' ()).drop (lo ())).take (len ())) cs ∧ (ln = 0 ∨ ∃ b off, ad = some ⟨b, off, none⟩ ∧ ∀ (j : Nat) (c : Value), cs[j]? = some c → w.cell? ⟨b, off + j, none⟩ = some c) := by
      intro nn e' xs' hm hl
      obtain ⟨p, hp, hr⟩ := ok_row hok hm
      simp only [VR] at hx
      rw [hp] at hx
      have hlen : (((xs' ()).drop (lo ())).take (len ())).length = len () := by rw [List.length_take, List.length_drop]; omega
      rcases hr with ⟨q, rfl, cs0, t, fz, hh, r1, r2, r3, r4, r5, r6, r7⟩ | ⟨rfl, e1, h0⟩
      · obtain ⟨off, cap, rfl, g1, g2, g3, g4⟩ := hx
        by_cases hl0 : len () = 0
        · refine ⟨_, _, _, [], rfl, hlen.symm, by omega, r4, ?_, .inl hl0⟩
          rw [hl0]
          exact .nil _
        · have g1 : off = lo () * q.sz := by rcases g1 with g1 | g1 <;> omega
          obtain ⟨cs, k1, k2⟩ := RowL.of (w := w) (I := I) (e := e') (b := q.b) (off := off) (((xs' ()).drop (lo ())).take (len ())) fun i hi => by
            rw [hlen] at hi
            have e1 : lk (((xs' ()).drop (lo ())).take (len ())) i = lk (xs' ()) (lo () + i) := by
              simp only [lk, List.getD, List.getElem?_take, List.getElem?_drop]
              rw [if_pos hi]
            have := r7 (lo () + i) (by omega)
            rw [e1, g1, ← r3, ← Nat.add_mul]
            exact this
          exact ⟨_, _, _, cs, rfl, hlen.symm, by omega, r4, k1, .inr ⟨q.b, off, rfl, k2⟩⟩
      · obtain ⟨rfl, e2, e3⟩ := hx
        refine ⟨none, 0, 0, [], rfl, by rw [hlen, e3], Nat.zero_le _, h0, ?_, .inl rfl⟩
        rw [e1]
        simpa using RowL.nil e'
    split at h <;> (try (cases h; done)) <;> rename_i nn e' xs' hm <;> simp only [Option.some.injEq, Prod.mk.injEq] at h <;> obtain ⟨rfl, rfl, rfl, rfl⟩ := h
    · exact key nn _ xs' (.inl hm) (hvc _ (List.mem_singleton.2 rfl))
    · exact key nn _ xs' (.inr hm) (hvc _ (List.mem_singleton.2 rfl))
end
end Go.Am
