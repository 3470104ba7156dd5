/- What the symbolic values and objects say of the machine's values and memory; that it is kept. -/
import Derived.Test.YtckgeadidjmpcaaAmDefs
namespace Go.Am
set_option linter.all false
set_option linter.deprecated false

structure Pl where
  b : Nat
  cap : Nat
  sz : Nat
abbrev Sig := Nat → Option (Option Pl)

mutual
def Dat (w : World) (I : Nat → Prop) : Sh → D → Value → Prop
  | .int k, d, v => v = .int k d.toInt ∧ wfB k d.toInt = true
  | .bool, d, v => v = .bool d.toBool
  | .str, d, v => ∃ s : ByteArray, v = .string s ∧ s.data.toList = d.toStr ∧ s.size ≤ maxLen
  | .slice e, d, v => ∃ a len cap, v = .slice a len cap ∧ len = d.toList.length ∧ len ≤ cap ∧ cap ≤ maxLen ∧ (a = none → cap = 0) ∧ 0 < e.length ∧
      ∀ i, i < len → ∃ b off, a = some ⟨b, off, none⟩ ∧ I b ∧ DatC w I e 0 (lk d.toList i) b (off + i * e.length)
  | .ptr _, _, _ => False
  | .other, _, _ => False
def DatC (w : World) (I : Nat → Prop) : List Sh → Nat → List D → Nat → Nat → Prop
  | [], _, _, _, _ => True
  | s :: ss, j, ds, b, o => (∃ u, w.cell? ⟨b, o + j, none⟩ = some u ∧ Dat w I s (lk ds j) u) ∧ DatC w I ss (j + 1) ds b o
end

/-- a mutable slice's value: its row's place, the first element, how many -/
def MsR (p : Option (Option Pl)) (lo len : Nat) (v : Value) : Prop :=
  match p with
  | none => False
  | some none => v = .slice none 0 0 ∧ lo = 0 ∧ len = 0
  | some (some p) => ∃ off cap, v = .slice (some ⟨p.b, off, none⟩) len cap ∧ (cap = 0 ∨ off = lo * p.sz) ∧ lo + cap ≤ p.cap ∧ len ≤ cap ∧ p.cap ≤ maxLen
def PtR (p : Option (Option Pl)) (v : Value) (f : Pl → Nat) : Prop :=
  match p with
  | some (some p) => v = .pointer (some ⟨p.b, f p, none⟩)
  | _ => False

mutual
def VR (w : World) (I : Nat → Prop) (σ : Sig) : AV → Value → Prop
  | .un, _ => True
  | .udf, v => v = undef
  | .int k n, v => v = .int k (n ()) ∧ wfB k (n ()) = true
  | .bool b, v => v = .bool (b ())
  | .str s, v => ∃ t : ByteArray, v = .string t ∧ t.data.toList = s () ∧ t.size ≤ maxLen
  | .nils, v => v = .slice none 0 0
  | .nilp, v => v = .pointer none
  | .nilf, v => v = .nilFunc
  | .sl nn e xs, v => Dat w I (.slice e) (.list (xs ())) v ∧ (nn = true → ∃ a len cap, v = .slice (some a) len cap)
  | .pt cs, v => ∃ b off, v = .pointer (some ⟨b, off, none⟩) ∧ VRat w I σ cs b off
  | .ms n lo len, v => MsR (σ n) (lo ()) (len ()) v
  | .mp n off, v => PtR (σ n) v fun _ => off
  | .me n i off, v => PtR (σ n) v fun p => i () * p.sz + off
  | .ax n off _ i, v => PtR (σ n) v fun _ => off + i ()
  | .agg cs, v => ∃ us, v = .agg us ∧ VRs w I σ cs us.toList
  | .tup cs, v => ∃ us, v = .tuple us ∧ VRs w I σ cs us.toList
  | .fn f cs, v => ∃ us, v = .func (.func f) #[] us ∧ VRs w I σ cs us.toList
def VRs (w : World) (I : Nat → Prop) (σ : Sig) : List AV → List Value → Prop
  | [], us => us = []
  | c :: cs, us => ∃ u us', us = u :: us' ∧ VR w I σ c u ∧ VRs w I σ cs us'
def VRat (w : World) (I : Nat → Prop) (σ : Sig) : List AV → Nat → Nat → Prop
  | [], _, _ => True
  | c :: cs, b, off => (I b ∧ ∃ u, w.cell? ⟨b, off, none⟩ = some u ∧ VR w I σ c u) ∧ VRat w I σ cs b (off + 1)
end

def unfrozen (cs : Array Value) (fz : Nat × Nat) : Prop := fz.1 = fz.2 ∨ cs.size ≤ fz.1
def RowR (w : World) (I : Nat → Prop) (p : Pl) (e : List Sh) (xs : List (List D)) : Prop :=
  ∃ cs t fz, w.heap[p.b]? = some (.cells cs t fz) ∧ unfrozen cs fz ∧ cs.size = p.cap * p.sz ∧ p.sz = e.length ∧ 0 < e.length ∧ xs.length ≤ p.cap ∧ p.cap ≤ maxLen ∧
    ∀ i, i < xs.length → DatC w I e 0 (lk xs i) p.b (i * p.sz)
def OR (w : World) (I : Nat → Prop) (σ : Sig) : Option Pl → MObj → Prop
  | some p, .row _ e xs => RowR w I p e (xs ())
  | some p, .imm _ e xs => RowR w I p e (xs ()) ∧ I p.b
  | some p, .obj cs => ∃ us t fz, w.heap[p.b]? = some (.cells us t fz) ∧ unfrozen us fz ∧ VRs w I σ cs us.toList
  | none, .row nn e xs => nn = false ∧ xs () = [] ∧ 0 < e.length
  | none, .imm nn e xs => nn = false ∧ xs () = [] ∧ 0 < e.length
  | none, .obj _ => False
def owns : MObj → Prop
  | .imm .. => False
  | _ => True
def Owned (σ : Sig) (M : MS) (b : Nat) : Prop := ∃ k o p, mget M k = some o ∧ owns o ∧ σ k = some (some p) ∧ p.b = b
structure Ok (w : World) (I : Nat → Prop) (σ : Sig) (M : MS) : Prop where
  lt : ∀ b, I b → b < w.heap.size
  obj : ∀ k o, mget M k = some o → ∃ p, σ k = some p ∧ OR w I σ p o
  sep : ∀ b, Owned σ M b → ¬ I b
  inj : ∀ k k' o o' p p', mget M k = some o → mget M k' = some o' → owns o → owns o' → σ k = some (some p) → σ k' = some (some p') → p.b = p'.b → k = k'
structure Ext (w : World) (I : Nat → Prop) (σ : Sig) (M : MS) (w' : World) (I' : Nat → Prop) (σ' : Sig) (M' : MS) : Prop where
  os : w'.os = w.os
  tape : w'.tape = w.tape
  output : w'.output = w.output
  size : w.heap.size ≤ w'.heap.size
  blk : ∀ b, b < w.heap.size → ¬ Owned σ M b → w'.heap[b]? = w.heap[b]?
  mono : ∀ b, I b → I' b
  fresh : ∀ b, I' b → I b ∨ Owned σ M b ∨ w.heap.size ≤ b
  own : ∀ b, Owned σ' M' b → Owned σ M b ∨ w.heap.size ≤ b
  sig : ∀ k p, σ k = some p → σ' k = some p

section
variable {w w' : World} {I I' : Nat → Prop} {σ σ' : Sig}
theorem cell_of_blk {b o : Nat} (h : w'.heap[b]? = w.heap[b]?) : w'.cell? ⟨b, o, none⟩ = w.cell? ⟨b, o, none⟩ := by simp [World.cell?, h]
/-- what is kept: immutable blocks, and what has been placed -/
structure Keep (w : World) (I : Nat → Prop) (σ : Sig) (w' : World) (I' : Nat → Prop) (σ' : Sig) : Prop where
  blk : ∀ b, I b → w'.heap[b]? = w.heap[b]?
  mono : ∀ b, I b → I' b
  sig : ∀ k p, σ k = some p → σ' k = some p
mutual
theorem Dat.keep (h1 : ∀ b, I b → w'.heap[b]? = w.heap[b]?) (h2 : ∀ b, I b → I' b) : ∀ (s : Sh) (d : D) (v : Value), Dat w I s d v → Dat w' I' s d v
  | .int _, _, _, h => h
  | .bool, _, _, h => h
  | .str, _, _, h => h
  | .slice e, d, v, h => by
    simp only [Dat] at h ⊢
    obtain ⟨a, len, cap, e1, e2, e3, e4, e5, e6, h⟩ := h
    refine ⟨a, len, cap, e1, e2, e3, e4, e5, e6, fun i hi => ?_⟩
    obtain ⟨b, off, ha, hb, hd⟩ := h i hi
    exact ⟨b, off, ha, h2 b hb, DatC.keep h1 h2 e 0 _ b _ hb hd⟩
  | .ptr _, _, _, h => h
  | .other, _, _, h => h
theorem DatC.keep (h1 : ∀ b, I b → w'.heap[b]? = w.heap[b]?) (h2 : ∀ b, I b → I' b) : ∀ (e : List Sh) (j : Nat) (ds : List D) (b o : Nat), I b → DatC w I e j ds b o → DatC w' I' e j ds b o
  | [], _, _, _, _, _, _ => trivial
  | s :: ss, j, ds, b, o, hb, h => by
    simp only [DatC] at h ⊢
    obtain ⟨⟨u, hu, hd⟩, h⟩ := h
    exact ⟨⟨u, (cell_of_blk (h1 b hb)).trans hu, Dat.keep h1 h2 s _ u hd⟩, DatC.keep h1 h2 ss (j + 1) ds b o hb h⟩
end
/-- of a mutable row: its own block is kept -/
theorem DatC.keep' (h1 : ∀ b, I b → w'.heap[b]? = w.heap[b]?) (h2 : ∀ b, I b → I' b) : ∀ (e : List Sh) (j : Nat) (ds : List D) (b o : Nat), w'.heap[b]? = w.heap[b]? → DatC w I e j ds b o → DatC w' I' e j ds b o
  | [], _, _, _, _, _, _ => trivial
  | s :: ss, j, ds, b, o, hb, h => by
    simp only [DatC] at h ⊢
    obtain ⟨⟨u, hu, hd⟩, h⟩ := h
    exact ⟨⟨u, (cell_of_blk hb).trans hu, Dat.keep h1 h2 s _ u hd⟩, DatC.keep' h1 h2 ss (j + 1) ds b o hb h⟩
theorem MsR.keep {n : Nat} (h : ∀ p, σ n = some p → σ' n = some p) {lo len : Nat} {v : Value} (hr : MsR (σ n) lo len v) : MsR (σ' n) lo len v := by
  cases hs : σ n with
  | none => rw [hs] at hr; exact hr.elim
  | some p => rw [h p hs, ← hs]; exact hr
theorem PtR.keep {n : Nat} (h : ∀ p, σ n = some p → σ' n = some p) {v : Value} {f : Pl → Nat} (hr : PtR (σ n) v f) : PtR (σ' n) v f := by
  cases hs : σ n with
  | none => rw [hs] at hr; exact hr.elim
  | some p => rw [h p hs, ← hs]; exact hr
mutual
theorem VR.keep (K : Keep w I σ w' I' σ') : ∀ (x : AV) (v : Value), VR w I σ x v → VR w' I' σ' x v
  | .un, _, _ => by simp [VR]
  | .udf, _, h => by simpa only [VR] using h
  | .int .., _, h => by simpa [VR] using h
  | .bool _, _, h => by simpa [VR] using h
  | .str _, _, h => by simpa [VR] using h
  | .nils, _, h => by simpa [VR] using h
  | .nilp, _, h => by simpa [VR] using h
  | .nilf, _, h => by simpa [VR] using h
  | .sl nn e xs, v, h => by
    simp only [VR] at h ⊢
    exact ⟨Dat.keep K.blk K.mono _ _ _ h.1, h.2⟩
  | .pt cs, v, h => by
    simp only [VR] at h ⊢
    obtain ⟨b, off, hv, h⟩ := h
    exact ⟨b, off, hv, VRat.keep K cs b off h⟩
  | .ms n lo len, v, h => by
    simp only [VR] at h ⊢
    exact MsR.keep (K.sig n) h
  | .mp n off, v, h => by
    simp only [VR] at h ⊢
    exact PtR.keep (K.sig n) h
  | .me n i off, v, h => by
    simp only [VR] at h ⊢
    exact PtR.keep (K.sig n) h
  | .ax n off c i, v, h => by
    simp only [VR] at h ⊢
    exact PtR.keep (K.sig n) h
  | .agg cs, v, h => by
    simp only [VR] at h ⊢
    obtain ⟨us, hv, h⟩ := h
    exact ⟨us, hv, VRs.keep K cs _ h⟩
  | .tup cs, v, h => by
    simp only [VR] at h ⊢
    obtain ⟨us, hv, h⟩ := h
    exact ⟨us, hv, VRs.keep K cs _ h⟩
  | .fn f cs, v, h => by
    simp only [VR] at h ⊢
    obtain ⟨us, hv, h⟩ := h
    exact ⟨us, hv, VRs.keep K cs _ h⟩
theorem VRs.keep (K : Keep w I σ w' I' σ') : ∀ (xs : List AV) (us : List Value), VRs w I σ xs us → VRs w' I' σ' xs us
  | [], _, h => by simp only [VRs] at h ⊢; exact h
  | c :: cs, us, h => by
    simp only [VRs] at h ⊢
    obtain ⟨u, us', e, h1, h2⟩ := h
    exact ⟨u, us', e, VR.keep K c u h1, VRs.keep K cs us' h2⟩
theorem VRat.keep (K : Keep w I σ w' I' σ') : ∀ (xs : List AV) (b off : Nat), VRat w I σ xs b off → VRat w' I' σ' xs b off
  | [], _, _, _ => by simp [VRat]
  | c :: cs, b, off, h => by
    simp only [VRat] at h ⊢
    obtain ⟨⟨hb, u, hu, hv⟩, h⟩ := h
    exact ⟨⟨K.mono b hb, u, (cell_of_blk (K.blk b hb)).trans hu, VR.keep K c u hv⟩, VRat.keep K cs b (off + 1) h⟩
end
theorem RowR.keep (h1 : ∀ b, I b → w'.heap[b]? = w.heap[b]?) (h2 : ∀ b, I b → I' b) {p : Pl} {e : List Sh} {xs : List (List D)} (hb : w'.heap[p.b]? = w.heap[p.b]?) (h : RowR w I p e xs) : RowR w' I' p e xs := by
  obtain ⟨cs, t, fz, hh, r1, r2, r3, r4, r5, r6, r7⟩ := h
  exact ⟨cs, t, fz, hb.trans hh, r1, r2, r3, r4, r5, r6, fun i hi => DatC.keep' h1 h2 e 0 _ _ _ hb (r7 i hi)⟩
theorem OR.keep (K : Keep w I σ w' I' σ') {p : Option Pl} {o : MObj} (hb : ∀ q, p = some q → w'.heap[q.b]? = w.heap[q.b]?) (h : OR w I σ p o) : OR w' I' σ' p o := by
  cases p with
  | none => cases o <;> exact h
  | some q =>
    cases o with
    | row nn e xs => exact RowR.keep K.blk K.mono (hb q rfl) h
    | imm nn e xs => exact ⟨RowR.keep K.blk K.mono (hb q rfl) h.1, K.mono _ h.2⟩
    | obj cs =>
      obtain ⟨us, t, fz, hh, hf, hv⟩ := h
      exact ⟨us, t, fz, (hb q rfl).trans hh, hf, VRs.keep K cs _ hv⟩
end
end Go.Am
