/- One operation: the scalar ones. -/
import Derived.Test.YtckgeadidjmpcaaAmRel
namespace Go.Am
set_option linter.all false
set_option linter.deprecated false

/-- the operation hands back a value and a world of which R holds -/
def Does (P : Program) (o : Oper) (a : Act) (w : World) (R : Value → World → Prop) : Prop :=
  ∀ (K : Act → World → Prop) (Q : Exit → Act → World → Prop), (∀ v w', R v w' → K (a.put o.dst v) w') → o.wp P a w K Q
def Post (w : World) (I : Nat → Prop) (σ : Sig) (M : MS) (key : Nat) (val : AV) (M' : MS) (v : Value) (w' : World) : Prop :=
  ∃ I' σ', VR w' I' σ' val v ∧ Ok w' I' σ' M' ∧ Ext w I σ M w' I' σ' M' ∧ ∀ k, σ' k = σ k ∨ (key ≤ k ∧ k < key + 8)
/-- a struct's fields, as they are told -/
def FsR (P : Program) : List (Nat × Nat × Nat) → List Field → Prop
  | [], _ => True
  | _ :: _, [] => False
  | (off, ft, sz) :: fs, g :: gs => g.offset = off ∧ g.type = ft ∧ (∃ inf, P.info? ft = some inf ∧ inf.size = sz) ∧ FsR P fs gs
theorem FsR.get {P : Program} : ∀ {fs : List (Nat × Nat × Nat)} {gs : List Field} {i off ft sz : Nat}, FsR P fs gs → fget fs i = some (off, ft, sz) →
    ∃ g, gs[i]? = some g ∧ g.offset = off ∧ g.type = ft ∧ ∃ inf, P.info? ft = some inf ∧ inf.size = sz
  | [], _, _, _, _, _, _, h => by simp [fget] at h
  | _ :: _, [], _, _, _, _, h, _ => h.elim
  | (off, ft, sz) :: fs, g :: gs, 0, _, _, _, h, e => by
    simp only [fget, Option.some.injEq, Prod.mk.injEq] at e
    obtain ⟨rfl, rfl, rfl⟩ := e
    exact ⟨g, rfl, h.1, h.2.1, h.2.2.1⟩
  | (_, _, _) :: fs, g :: gs, i + 1, _, _, _, h, e => by
    obtain ⟨g', e', r⟩ := FsR.get (i := i) h.2.2.2 e
    exact ⟨g', by simpa using e', r⟩
/-- what is asked of a type's row -/
def TDok (P : Program) : TD → TypeDesc → Prop
  | .int k, d => d = .int k
  | .bool, d => d = .bool
  | .str, d => d = .string
  | .slice el esz eb esh, d => d = .slice el ∧ esh.length = esz ∧ 0 < esz ∧ ∃ inf z, P.info? el = some inf ∧ inf.size = esz ∧ inf.bytes = eb ∧ inf.zero = some z ∧ z.cells.size = esz
  | .ptr el, d => d = .pointer el
  | .struct fs cmp, d => ∃ fields, d = .struct fields ∧ FsR P fs fields.toList ∧ fs.length = fields.size ∧ (cmp = true → ∀ g ∈ fields.toList, g.name ≠ "_")
  | .array n el esz, d => d = .array n el ∧ ∃ inf, P.info? el = some inf ∧ inf.size = esz
  | .func, d => ∃ ps rs v, d = .func ps rs v
  | .other, _ => True
def isAggD : TypeDesc → Bool
  | .struct _ | .array _ _ => true
  | _ => false
structure TIok (P : Program) (t : Nat) (i : TI) : Prop where
  under : ∃ d, P.underlying t = some d ∧ TDok P i.td d ∧ i.agg = isAggD d
  stood : (match i.td with | .struct _ c => c | _ => false) = true → P.stoodInHeld t = false ∧ P.eqGuardType P.depth t = false
  info : ∃ inf z, P.info? t = some inf ∧ inf.size = i.size ∧ inf.zero = some z ∧ z.cells.size = i.size ∧ ∀ w I σ, VRs w I σ i.zero z.cells.toList

section
variable {P : Program} {o : Oper} {a : Act} {w : World} {I : Nat → Prop} {σ : Sig} {M : MS} {key : Nat} {env : List AV}
def EnvR (w : World) (I : Nat → Prop) (σ : Sig) (env : List AV) (tmps : Array Value) : Prop := ∀ t, VR w I σ (lget env t) (tmps.getD t undef)
theorem cv_ok (v : Value) : VR w I σ (cv v) v := by
  unfold cv
  split
  · split
    · simp only [VR, true_and]; assumption
    · simp only [VR]
  · simp only [VR]
  · split
    · rename_i h
      simp only [VR]; exact ⟨_, rfl, rfl, by have := Nat.le_of_ble_eq_true h; unfold maxLen; omega⟩
    · simp only [VR]
  all_goals simp only [VR]
theorem opv_ok (h : EnvR w I σ env a.tmps) (x : Operand) : VR w I σ (opv env x) (a.eval x) := by
  cases x with
  | tmp t => exact h t
  | const v => exact cv_ok v
  | global g => simp [opv, VR]
  | func f => simp only [opv, VR, Act.eval]; exact ⟨#[], rfl, by simp [VRs]⟩
theorem opvs_ok (h : EnvR w I σ env a.tmps) : ∀ (xs : List Operand), VRs w I σ (opvs env xs) (xs.map a.eval)
  | [] => by simp [opvs, VRs]
  | x :: xs => by simp only [opvs, VRs, List.map_cons]; exact ⟨_, _, rfl, opv_ok h x, opvs_ok h xs⟩
theorem lget_ok : ∀ (xs : List AV) (us : List Value) (i : Nat), VRs w I σ xs us → i < xs.length → ∃ u, us[i]? = some u ∧ VR w I σ (lget xs i) u
  | [], _, _, _, h => by simp at h
  | c :: cs, us, i, h, hi => by
    simp only [VRs] at h
    obtain ⟨u, us', rfl, h1, h2⟩ := h
    cases i with
    | zero => exact ⟨u, rfl, h1⟩
    | succ i =>
      obtain ⟨u', e, h3⟩ := lget_ok cs us' i h2 (by simpa using hi)
      exact ⟨u', by simpa using e, h3⟩
theorem llen_eq (xs : List AV) : llen xs = xs.length := by induction xs <;> simp_all [llen]
theorem ldrop_eq (xs : List AV) (n : Nat) : ldrop xs n = xs.drop n := by
  induction xs generalizing n with
  | nil => cases n <;> simp [ldrop]
  | cons x xs ih => cases n <;> simp [ldrop, ih]
theorem ltake_eq (xs : List AV) (n : Nat) : ltake xs n = xs.take n := by
  induction xs generalizing n with
  | nil => cases n <;> simp [ltake]
  | cons x xs ih => cases n <;> simp [ltake, ih]
theorem lapp_eq (xs ys : List AV) : lapp xs ys = xs ++ ys := by induction xs <;> simp_all [lapp]
theorem lget_eq (xs : List AV) (n : Nat) : lget xs n = xs.getD n .un := by
  induction xs generalizing n with
  | nil => simp [lget]
  | cons x xs ih => cases n <;> simp [lget, ih]
theorem lset_eq (xs : List AV) (n : Nat) (v : AV) : lset xs n v = xs.set n v := by
  induction xs generalizing n with
  | nil => simp [lset]
  | cons x xs ih => cases n <;> simp [lset, ih]
theorem VRs.length : ∀ {xs : List AV} {us : List Value}, VRs w I σ xs us → us.length = xs.length
  | [], _, h => by simp only [VRs] at h; simp [h]
  | c :: cs, us, h => by
    simp only [VRs] at h
    obtain ⟨u, us', rfl, _, h2⟩ := h
    simp [VRs.length h2]
theorem VRs.drop : ∀ {xs : List AV} {us : List Value} (n : Nat), VRs w I σ xs us → VRs w I σ (xs.drop n) (us.drop n)
  | xs, us, 0, h => by simpa using h
  | [], us, n + 1, h => by simp only [VRs] at h; simp [h, VRs]
  | c :: cs, us, n + 1, h => by
    simp only [VRs] at h
    obtain ⟨u, us', rfl, _, h2⟩ := h
    simpa using VRs.drop n h2
theorem VRs.take : ∀ {xs : List AV} {us : List Value} (n : Nat), VRs w I σ xs us → VRs w I σ (xs.take n) (us.take n)
  | xs, us, 0, h => by simp [VRs]
  | [], us, n + 1, h => by simp only [VRs] at h; simp [h, VRs]
  | c :: cs, us, n + 1, h => by
    simp only [VRs] at h
    obtain ⟨u, us', rfl, h1, h2⟩ := h
    simp only [List.take_succ_cons, VRs]
    exact ⟨u, _, rfl, h1, VRs.take n h2⟩
theorem VRs.append : ∀ {xs ys : List AV} {us vs : List Value}, VRs w I σ xs us → VRs w I σ ys vs → VRs w I σ (xs ++ ys) (us ++ vs)
  | [], _, us, vs, h, h' => by simp only [VRs] at h; simpa [h] using h'
  | c :: cs, _, us, vs, h, h' => by
    simp only [VRs] at h
    obtain ⟨u, us', rfl, h1, h2⟩ := h
    simp only [List.cons_append, VRs]
    exact ⟨u, _, rfl, h1, VRs.append h2 h'⟩

/-- nothing turns but a value is made -/
theorem Ext.refl (h : Ok w I σ M) : Ext w I σ M w I σ M :=
  ⟨rfl, rfl, rfl, Nat.le_refl _, fun _ _ _ => rfl, fun _ h => h, fun _ h => .inl h, fun _ h => .inl h, fun _ _ h => h⟩
theorem Post.same (h : Ok w I σ M) {val : AV} {v : Value} (hv : VR w I σ val v) : Post w I σ M key val M v w :=
  ⟨I, σ, hv, h, .refl h, fun _ => .inl rfl⟩
theorem Does.value {R : Value → World → Prop} {v : Value} {w' : World} (hr : (execOp a.eval o).run P w = .ok (.value v) w') (h : R v w') : Does P o a w R := by
  intro K Q hK
  unfold Oper.wp
  rw [hr]
  exact hK v w' h
theorem Does.skip {R : Value → World → Prop} {w' : World} (hr : (execOp a.eval o).run P w = .ok .skip w') (h : R undef w') : Does P o a w R := by
  intro K Q hK
  unfold Oper.wp
  rw [hr]
  exact hK undef w' h

/-! ### numbers -/
theorem wrap_wf (k : IntKind) (n : Int) : wfB k (k.wrap n) = true := by
  simp only [wfB, Bool.and_eq_true, decide_eq_true_eq]
  cases k <;> simp [IntKind.wrap, IntKind.min, IntKind.max, IntKind.signed, IntKind.bits] <;> (try split) <;> omega
theorem wf_iff (k : IntKind) (n : Int) : wfB k n = true ↔ k.min ≤ n ∧ n ≤ k.max := by simp [wfB]
theorem tmod_wf (k : IntKind) (a b : Int) (h : wfB k a = true) : wfB k (a.tmod b) = true := by
  rw [wf_iff] at h ⊢
  have h1 : (a.tmod b).natAbs ≤ a.natAbs := by rw [Int.natAbs_tmod]; exact Nat.mod_le _ _
  have h2 : 0 ≤ a → 0 ≤ a.tmod b := fun h => Int.tmod_nonneg b h
  have h3 : a ≤ 0 → a.tmod b ≤ 0 := fun h => by
    have := Int.tmod_nonneg b (a := -a) (by omega)
    rw [Int.neg_tmod] at this
    omega
  have h4 : k.min ≤ 0 := by cases k <;> decide
  have h5 : 0 ≤ k.max := by cases k <;> decide
  omega
theorem fdiv_wf (k : IntKind) (a : Int) (n : Nat) (h : wfB k a = true) : wfB k (a.fdiv (2 ^ n)) = true := by
  rw [wf_iff] at h ⊢
  have hp : (0 : Int) < 2 ^ n := Int.pow_pos (by omega)
  rw [Int.fdiv_eq_ediv_of_nonneg _ (by omega)]
  have h4 : k.min ≤ 0 := by cases k <;> decide
  have h5 : 0 ≤ k.max := by cases k <;> decide
  have h1 : (1 : Int) ≤ 2 ^ n := by omega
  constructor
  · rw [Int.le_ediv_iff_mul_le hp]
    have : k.min * 2 ^ n ≤ k.min * 1 := Int.mul_le_mul_of_nonpos_left h4 h1
    omega
  · by_cases ha : 0 ≤ a
    · have := Int.ediv_le_self (2 ^ n) ha
      omega
    · have : a / 2 ^ n < 0 := Int.ediv_neg_of_neg_of_pos (by omega) hp
      omega
theorem ibits_run (op : BinOp) (k : IntKind) (x y : Int) (h : op = .and ∨ op = .or ∨ op = .xor ∨ op = .andNot) (w : World) :
    (Op.intBits op k x y).run P w = .ok (.int k (ibits op k x y)) w ∧ wfB k (ibits op k x y) = true := by
  rcases h with rfl | rfl | rfl | rfl <;> exact ⟨rfl, wrap_wf _ _⟩
def val0 : AV → Value
  | .int k n => .int k (n ())
  | .bool b => .bool (b ())
  | _ => undef
theorem binInt_ok (op : BinOp) (t : TypeId) (k k' : IntKind) (x y : Operand) (f g : Unit → Int) (hf : wfB k (f ()) = true) (e : Eff)
    (h : binInt op k f k' g = some e) (hvc : ∀ p ∈ e.vc, p ()) :
    (do eqGuard op t x y (.int k (f ())) (.int k' (g ())); binOp op t (.int k (f ())) (.int k' (g ())) : Sem Value).run P w = .ok (val0 e.val) w ∧ VR w I σ e.val (val0 e.val) ∧ e.upd = [] := by
  rw [eqGuard_at_int, pure_bind]
  unfold binInt at h
  split at h
  · simp only [Eff.chk, Option.some.injEq] at h; subst h
    have hv : 0 ≤ g () := hvc (fun _ => 0 ≤ g ()) (List.mem_singleton.2 rfl)
    refine ⟨?_, ?_, rfl⟩
    · simp only [binOp, Op.shift, if_neg (show ¬ g () < 0 by omega)]; rfl
    · simp only [VR, val0, true_and]; exact wrap_wf _ _
  · simp only [Eff.chk, Option.some.injEq] at h; subst h
    have hv : 0 ≤ g () := hvc (fun _ => 0 ≤ g ()) (List.mem_singleton.2 rfl)
    refine ⟨?_, ?_, rfl⟩
    · simp only [binOp, Op.shift, if_neg (show ¬ g () < 0 by omega)]; rfl
    · simp only [VR, val0, true_and]; exact fdiv_wf _ _ _ hf
  · split at h
    · cases h
    · rename_i hk
      obtain rfl : k = k' := by simpa using hk
      split at h <;> (try (cases h; done)) <;> simp only [Eff.pure, Eff.chk, Option.some.injEq] at h <;> subst h <;> refine ⟨?_, ?_, rfl⟩ <;>
        (try (simp only [VR, val0]; done)) <;>
        (try (simp only [VR, val0, true_and]; exact wrap_wf _ _)) <;>
        (try (simp only [VR, val0, true_and]; exact (ibits_run (P := P) _ k _ _ (by simp) w).2)) <;>
        (try (simp only [VR, val0, true_and]; exact tmod_wf _ _ _ hf)) <;>
        simp only [binOp, ne_eq, not_true_eq_false, if_false, Op.intArith, Op.intBits, Op.intCmp, Op.intDiv, val0] <;>
        (try (rw [if_neg (hvc (fun _ => g () ≠ 0) (List.mem_singleton.2 rfl))])) <;> rfl
end
end Go.Am
