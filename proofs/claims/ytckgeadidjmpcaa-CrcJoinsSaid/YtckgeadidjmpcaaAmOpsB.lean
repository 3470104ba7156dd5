/- One operation: copy, stores, new objects, conversions. -/
import Derived.Test.YtckgeadidjmpcaaAmOpsA
namespace Go.Am
set_option linter.all false
set_option linter.deprecated false
section
variable {P : Program} {o : Oper} {a : Act} {w w' : World} {I I' : Nat → Prop} {σ : Sig} {M : MS} {key : Nat} {env : List AV} {T : TT}

theorem Post.reset (hok : Ok w I σ M) {n : Nat} {x y : MObj} (hx : mget M n = some x) (hq : σ n = some none) (hy : OR w I σ none y) {val : AV} {v : Value} (hv : VR w I σ val v) : Post w I σ M key val (mset M n y) v w := by
  have back : ∀ k z p, mget (mset M n y) k = some z → σ k = some (some p) → mget M k = some z := by
    intro k z p hk hs
    rw [mget_mset] at hk
    split at hk
    · rename_i e; subst e
      rw [hq] at hs; cases hs
    · exact hk
  have hown : ∀ b, Owned σ (mset M n y) b → Owned σ M b := by
    rintro b ⟨k, z, p, hk, hz, hs, rfl⟩
    exact ⟨k, z, p, back k z p hk hs, hz, hs, rfl⟩
  refine ⟨I, σ, hv, ⟨hok.lt, fun k z hk => ?_, fun b hb => hok.sep b (hown b hb), fun k k' z z' p p' h1 h2 o1 o2 s1 s2 e => hok.inj k k' z z' p p' (back k z p h1 s1) (back k' z' p' h2 s2) o1 o2 s1 s2 e⟩,
    ⟨rfl, rfl, rfl, Nat.le_refl _, fun _ _ _ => rfl, fun _ h => h, fun _ h => .inl h, fun b hb => .inl (hown b hb), fun _ _ h => h⟩, fun _ => .inl rfl⟩
  rw [mget_mset] at hk
  split at hk
  · rename_i e; subst e
    cases hk
    exact ⟨none, hq, hy⟩
  · exact hok.obj k z hk
theorem copy_ok (hok : Ok w I σ M) (hT : ∀ t i, T t = some i → TIok P t i) {t t' : Nat} {ti : TI} (ht : tget T t = some ti) {el esz eb : Nat} {esh : List Sh} (htd : ti.td = .slice el esz eb esh) (ty : TypeId) {n : Nat} {lo len : Unit → Nat} {src : AV}
    {nn : Bool} {e : List Sh} {xs ys : Unit → List (List D)} {r : List Nat} {vc : List (Unit → Prop)} (hm : mget M n = some (.row nn e xs)) (hel : elems M src = some (e, ys, r, vc)) (hes : e.length = esz) (hv1 : lo () + len () ≤ (xs ()).length) (hvc : ∀ p ∈ vc, p ())
    {u v : Value} (hs : VR w I σ (.ms n lo len) u) (hx : VR w I σ src v) :
    ∃ r w', (Builtin.copy_ #[t, t'] ty #[u, v]).run P w = .ok r w' ∧ Post w I σ M key (.int .i64 (fun _ => ((min (len ()) (ys ()).length : Nat) : Int))) (mset M n (.row nn e (fun _ => (xs ()).take (lo ()) ++ (ys ()).take (len ()) ++ (xs ()).drop (lo () + min (len ()) (ys ()).length)))) r w' := by
  obtain ⟨d, hu, hd, _⟩ := under_of hT ht
  rw [htd] at hd
  obtain ⟨rfl, hesh, hes0, inf, z, hinf, hisz, _⟩ := sz_of_slice hd
  obtain ⟨ad, m, c, cs, rfl, g1, g2, g3, g4, g5⟩ := elems_ok hok hel hvc hx
  obtain ⟨q, hq, hr⟩ := ok_row hok (.inl hm)
  simp only [VR] at hs
  rw [hq] at hs
  generalize hk : min (len ()) (ys ()).length = k
  have hkm : k ≤ m := by rw [g1]; omega
  have hkw : wfB .i64 (k : Int) = true := len_wf (by omega)
  have hf : (Builtin.firstCells inf.size k (.slice ad m c)).run P w = .ok (cs.take (k * e.length)).toArray w := by
    have hlen : (cs.take (k * e.length)).length = k * inf.size := by
      rw [List.length_take, g4.1, ← g1, Nat.min_eq_left (Nat.mul_le_mul_right _ hkm), hisz, hes]
    rcases g5 with g5 | ⟨b, of, rfl, g5⟩
    · have hk0 : k = 0 := by omega
      subst hk0
      have : cs.take (0 * e.length) = [] := by simp
      rw [this]
      cases ad with
      | none => exact run_firstCells_none w _ _ _ _
      | some b => exact run_firstCells_some w inf.size 0 b m c [] (by simp) (by simp)
    · exact run_firstCells_some w inf.size k ⟨b, of, none⟩ m c _ hlen (fun j c hc => by
        rw [Addr.add_lit]
        rw [List.getElem?_take] at hc
        split at hc
        · exact g5 j c hc
        · cases hc)
  have hrl : RowL w I e ((ys ()).take k) (cs.take (k * e.length)) := g4.take k (by omega)
  have htk : (ys ()).take (len ()) = (ys ()).take k := by
    rw [← hk]
    rcases Nat.le_total (len ()) (ys ()).length with h | h
    · rw [Nat.min_eq_left h]
    · rw [Nat.min_eq_right h, List.take_of_length_le h, List.take_of_length_le (Nat.le_refl _)]
  rcases hr with ⟨p, rfl, cs0, ct, fz, hh, r1, r2, r3, r4, r5, r6, r7⟩ | ⟨rfl, e1, e0⟩
  · obtain ⟨off, cap, rfl, k1, k2, k3, k4⟩ := hs
    obtain ⟨olds, o1, o2⟩ := RowL.of (w := w) (I := I) (e := e) (b := p.b) (off := 0) (xs ()) fun i hi => by rw [Nat.zero_add, ← r3]; exact r7 i hi
    have hoff : k = 0 ∨ off = lo () * e.length := by
      rcases k1 with k1 | k1
      · left; omega
      · right; rw [k1, r3]
    have hl1 : (cs.take (k * e.length)).length = k * e.length := by rw [List.length_take, g4.1, ← g1, Nat.min_eq_left (Nat.mul_le_mul_right _ hkm)]
    have hmul : (lo () + k) * e.length ≤ (xs ()).length * e.length := Nat.mul_le_mul_right _ (by omega)
    have hmul2 : (xs ()).length * e.length ≤ p.cap * e.length := Nat.mul_le_mul_right _ r5
    have hmul3 : (lo () + k) * e.length = lo () * e.length + k * e.length := Nat.add_mul _ _ _
    obtain ⟨w', cs', st1, st2, st3, st4⟩ : ∃ w' cs', (storeCells ⟨p.b, off, none⟩ (cs.take (k * e.length))).run P w = .ok () w' ∧ Turned w w' p.b ∧ w'.heap[p.b]? = some (.cells cs' ct fz) ∧ Splice cs0 off (cs.take (k * e.length)) cs' := by
      rcases hoff with h0 | h0
      · subst h0
        have : cs.take (0 * e.length) = [] := by simp
        rw [this]
        exact ⟨w, cs0, rfl, .refl w _, hh, rfl, fun j => by rw [if_neg (by simp)]⟩
      · have := run_storeCells_splice (P := P) p.b off (cs.take (k * e.length)) 0 w cs0 ct fz hh r1 (by rw [hl1, h0, r2, r3]; omega) (fun x hx => g4.ones g3 x (List.mem_of_mem_take hx))
        simpa using this
    refine ⟨goInt k, w', ?_, ?_⟩
    · have hmin : Nat.min m (len ()) = k := by rw [← hk, g1]; exact Nat.min_comm _ _
      simp only [Builtin.copy_, List.getElem?_toArray, List.getElem?_cons_zero, List.getElem?_cons_succ, Sem.run_bind, run_under hu, Result.andThen_ok, run_sizeOf_of hinf, Sem.run_pure, Builtin.lenOf, hmin, hf, st1]
    · refine Post.turned hok hm trivial hq st2 trivial ?_ (by simp only [VR, goInt, hk, true_and]; exact hkw)
      have hIo : ∀ b, I b → w'.heap[b]? = w.heap[b]? := fun b hb => st2.other b (by rintro rfl; exact hok.sep _ ⟨n, _, p, hm, trivial, hq, rfl⟩ hb)
      have q1 := (o1.take (lo ()) (by omega)).append hrl
      have q2 := q1.append (o1.drop (lo () + k) (by omega))
      refine ⟨cs', ct, fz, st3, st4.unfrozen r1, by rw [st4.1, r2], r3, r4, ?_, r6, ?_⟩
      · show ((xs ()).take (lo ()) ++ (ys ()).take (len ()) ++ (xs ()).drop (lo () + k)).length ≤ p.cap
        rw [htk]
        simp only [List.length_append, List.length_take, List.length_drop]
        omega
      · show ∀ i, i < ((xs ()).take (lo ()) ++ (ys ()).take (len ()) ++ (xs ()).drop (lo () + k)).length → _
        rw [htk, r3]
        refine (q2.keep hIo fun _ h => h).row fun j c hc => ?_
        rw [cell_of_row w' p.b j cs' ct fz st3, st4.2 j, hl1]
        have ol : olds.length = (xs ()).length * e.length := o1.1
        have l1 : (olds.take (lo () * e.length)).length = lo () * e.length := by rw [List.length_take, ol, Nat.min_eq_left (by omega)]
        by_cases h1 : j < lo () * e.length
        · rw [List.append_assoc, List.getElem?_append_left (by omega), List.getElem?_take, if_pos h1] at hc
          have := o2 j c hc
          rw [Nat.zero_add, cell_of_row w p.b j cs0 ct fz hh] at this
          rcases hoff with h0 | h0
          · rw [if_neg (by subst h0; simp)]
            exact this
          · rw [if_neg (by omega)]
            exact this
        · rw [List.append_assoc, List.getElem?_append_right (by omega), l1] at hc
          by_cases h2 : j < lo () * e.length + k * e.length
          · rw [List.getElem?_append_left (by omega)] at hc
            rcases hoff with h0 | h0
            · subst h0; simp at h2; omega
            · rw [h0, if_pos (by omega)]
              exact hc
          · rw [List.getElem?_append_right (by omega), hl1, List.getElem?_drop] at hc
            have := o2 _ c hc
            rw [Nat.zero_add, cell_of_row w p.b _ cs0 ct fz hh, hmul3] at this
            rw [show lo () * e.length + k * e.length + (j - lo () * e.length - k * e.length) = j by omega] at this
            rcases hoff with h0 | h0
            · rw [if_neg (by subst h0; simp)]
              exact this
            · rw [if_neg (by omega)]
              exact this
  · obtain ⟨rfl, e2, e3⟩ := hs
    have hk0 : k = 0 := by omega
    subst hk0
    refine ⟨goInt 0, w, ?_, ?_⟩
    · have hmin : Nat.min m 0 = 0 := Nat.min_zero _
      simp only [Nat.zero_mul, List.take_zero] at hf
      simp only [Builtin.copy_, List.getElem?_toArray, List.getElem?_cons_zero, List.getElem?_cons_succ, Sem.run_bind, run_under hu, Result.andThen_ok, run_sizeOf_of hinf, Sem.run_pure, Builtin.lenOf, hmin, hf]
      rfl
    · obtain ⟨p, hp, ho⟩ := hok.obj n _ hm
      rw [hq] at hp; cases hp
      refine Post.reset hok hm hq ?_ (by simp only [VR, goInt, hk]; exact ⟨rfl, hkw⟩)
      refine (show nn = false ∧ (xs ()).take (lo ()) ++ (ys ()).take (len ()) ++ (xs ()).drop (lo () + 0) = [] ∧ 0 < e.length from ⟨ho.1, ?_, e0⟩)
      rw [htk, e1]
      simp
/-! ### stores -/
theorem lset_drop (cs : List AV) (off : Nat) : True := trivial
theorem encs_ok : ∀ {e : List Sh} {vs : List AV} {ds : List (Unit → D)} {us : List Value} (pre : List D), encs e vs = some ds → VRs w I σ vs us → DatL w I e pre.length (pre ++ dall ds) us
  | [], [], ds, us, pre, h, hv => by
    simp only [VRs] at hv
    exact hv
  | [], _ :: _, _, _, _, h, _ => by simp [encs] at h
  | _ :: _, [], _, _, _, h, _ => by simp [encs] at h
  | s :: ss, v :: vs, ds, us, pre, h, hv => by
    simp only [encs] at h
    split at h <;> (try (cases h; done))
    rename_i d ds' h1 h2
    simp only [Option.some.injEq] at h
    subst h
    simp only [VRs] at hv
    obtain ⟨u, us', rfl, hu, hv⟩ := hv
    simp only [DatL]
    refine ⟨u, us', rfl, ?_, ?_⟩
    · have : lk (pre ++ dall (d :: ds')) pre.length = d () := by simp [lk, List.getD, dall]
      rw [this]
      exact enc_ok h1 hu
    · have := encs_ok (pre ++ [d ()]) h2 hv
      simpa [dall] using this
theorem encs_length : ∀ {e : List Sh} {vs : List AV} {ds : List (Unit → D)}, encs e vs = some ds → vs.length = e.length ∧ ds.length = e.length
  | [], [], ds, h => by simp only [encs, Option.some.injEq] at h; subst h; exact ⟨rfl, rfl⟩
  | [], _ :: _, _, h => by simp [encs] at h
  | _ :: _, [], _, h => by simp [encs] at h
  | s :: ss, v :: vs, ds, h => by
    simp only [encs] at h
    split at h <;> (try (cases h; done))
    rename_i d ds' h1 h2
    simp only [Option.some.injEq] at h
    subst h
    have := encs_length h2
    simp [this.1, this.2]
theorem storeObj_ok (hok : Ok w I σ M) {t : Nat} {ti : TI} (hi : TIok P t ti) {n off : Nat} {cs : List AV} {x : AV} {u v : Value} (hm : mget M n = some (.obj cs)) (h1 : off + ti.size ≤ cs.length) (h2 : (cellsOf x).length = ti.size) (h3 : plains (cellsOf x) = true)
    (hu : VR w I σ (.mp n off) u) (hv : VR w I σ x v) : ∃ w', (Instr.storeAt t u v).run P w = .ok () w' ∧ Post w I σ M key .un (mset M n (.obj (lput cs off (cellsOf x)))) undef w' := by
  obtain ⟨p, hp, ho⟩ := hok.obj n _ hm
  simp only [VR] at hu
  rw [hp] at hu
  cases p with
  | none => exact hu.elim
  | some p =>
    simp only [PtR] at hu
    subst hu
    obtain ⟨us, tt, fz, hh, hf, hvs⟩ := ho
    obtain ⟨g1, g2⟩ := cellsOf_ok h3 hv
    have l1 := VRs.length g1
    have l2 := VRs.length hvs
    simp only [Array.length_toList] at l1 l2
    obtain ⟨w', cs', r1, r2, r3, r4⟩ := run_storeVar_of (P := P) (t := t) hi (by omega) g2 hh hf (off := off) (by omega)
    refine ⟨w', r1, ?_⟩
    have K : Keep w I σ w' I σ := ⟨fun b hb => r2.other b (by rintro rfl; exact hok.sep _ ⟨n, _, p, hm, trivial, hp, rfl⟩ hb), fun b hb => hb, fun _ _ h => h⟩
    refine Post.turned hok hm trivial hp r2 trivial ⟨cs', tt, fz, r3, r4.unfrozen hf, VRs.keep K _ _ ?_⟩ (by simp only [VR])
    refine VRs.splice hvs g1 (by simp [r4.1]) (fun j => ?_) (by simp; omega)
    have := r4.2 j
    simpa using this
/-- part of an element's data turned -/
theorem setCells_lk : ∀ (ds : List D) (off : Nat) (ns : List D) (j : Nat), lk (setCells ds off ns) j = if off ≤ j ∧ j < off + ns.length ∧ j < ds.length then lk ns (j - off) else lk ds j
  | ds, off, [], j => by rw [if_neg (by simp; omega)]; rfl
  | ds, off, d :: rest, j => by
    simp only [setCells, List.length_cons]
    rw [setCells_lk]
    simp only [List.length_set]
    by_cases hj : off = j
    · subst hj
      rw [if_neg (by omega)]
      by_cases hl : off < ds.length
      · rw [if_pos (by omega)]
        simp [lk, List.getD, hl]
      · rw [if_neg (by omega)]
        simp [lk, List.getD, hl]
    · have e1 : lk (ds.set off d) j = lk ds j := by simp [lk, List.getD, List.getElem?_set_ne hj]
      by_cases h2 : off + 1 ≤ j ∧ j < off + 1 + rest.length ∧ j < ds.length
      · rw [if_pos h2, if_pos (by omega)]
        obtain ⟨n, rfl⟩ : ∃ n, j = off + 1 + n := ⟨j - (off + 1), by omega⟩
        rw [show off + 1 + n - (off + 1) = n by omega, show off + 1 + n - off = n + 1 by omega]
        simp [lk, List.getD]
      · rw [if_neg h2, if_neg (by omega), e1]
theorem DatC.iff {b : Nat} : ∀ {e : List Sh} {j : Nat} {ds : List D} {o : Nat}, DatC w I e j ds b o ↔ ∀ k s, e[k]? = some s → ∃ u, w.cell? ⟨b, o + j + k, none⟩ = some u ∧ Dat w I s (lk ds (j + k)) u
  | [], j, ds, o => by simp [DatC]
  | s :: ss, j, ds, o => by
    simp only [DatC, DatC.iff (e := ss)]
    constructor
    · rintro ⟨⟨u, hu, hd⟩, h⟩ k s' hk
      cases k with
      | zero => simp at hk; subst hk; exact ⟨u, hu, hd⟩
      | succ k =>
        obtain ⟨u', h1, h2⟩ := h k s' (by simpa using hk)
        exact ⟨u', by rwa [show o + j + (k + 1) = o + (j + 1) + k by omega], by rwa [show j + (k + 1) = j + 1 + k by omega]⟩
    · intro h
      refine ⟨h 0 s rfl, fun k s' hk => ?_⟩
      obtain ⟨u', h1, h2⟩ := h (k + 1) s' (by simpa using hk)
      exact ⟨u', by rwa [show o + (j + 1) + k = o + j + (k + 1) by omega], by rwa [show j + 1 + k = j + (k + 1) by omega]⟩
theorem DatL.get : ∀ {e : List Sh} {j : Nat} {ds : List D} {us : List Value}, DatL w I e j ds us → ∀ (k : Nat) (s : Sh), e[k]? = some s → ∃ u, us[k]? = some u ∧ Dat w I s (lk ds (j + k)) u
  | [], _, _, _, _, k, s, h => by simp at h
  | s :: ss, j, ds, us, h, k, s', hk => by
    simp only [DatL] at h
    obtain ⟨u, us', rfl, hd, h⟩ := h
    cases k with
    | zero => simp at hk; subst hk; exact ⟨u, rfl, hd⟩
    | succ k =>
      obtain ⟨u', h1, h2⟩ := DatL.get h k s' (by simpa using hk)
      exact ⟨u', by simpa using h1, by rwa [show j + (k + 1) = j + 1 + k by omega]⟩
theorem eshAt_get : ∀ {e : List Sh} {off n : Nat} {k : Nat}, k < n → off + n ≤ e.length → (eshAt e off n)[k]? = e[off + k]?
  | e, off, 0, k, h, _ => by omega
  | [], off, n + 1, k, _, h => by simp at h
  | s :: ss, 0, n + 1, k, h, hl => by
    simp only [eshAt]
    cases k with
    | zero => rfl
    | succ k =>
      have := eshAt_get (e := ss) (off := 0) (n := n) (k := k) (by omega) (by simp at hl; omega)
      simpa using this
  | s :: ss, off + 1, n + 1, k, h, hl => by
    simp only [eshAt]
    have := eshAt_get (e := ss) (off := off) (n := n + 1) (k := k) h (by simp at hl; omega)
    rw [this, show off + 1 + k = off + k + 1 by omega]
    rfl
theorem eshAt_bound : ∀ {e : List Sh} {off n : Nat}, (eshAt e off n).length = n → 1 ≤ n → off + n ≤ e.length
  | e, off, 0, _, h => by omega
  | [], off, n + 1, h, _ => by cases off <;> simp [eshAt] at h
  | s :: ss, 0, n + 1, h, _ => by
    simp only [eshAt, List.length_cons] at h
    cases n with
    | zero => simp
    | succ n =>
      have := eshAt_bound (e := ss) (off := 0) (n := n + 1) (by omega) (by omega)
      simp; omega
  | s :: ss, off + 1, n + 1, h, h1 => by
    simp only [eshAt] at h
    have := eshAt_bound (e := ss) (off := off) (n := n + 1) h h1
    simp; omega
theorem storeElem_ok (hok : Ok w I σ M) {t : Nat} {ti : TI} (hi : TIok P t ti) {n off : Nat} {ix : Unit → Nat} {nn : Bool} {e : List Sh} {xs : Unit → List (List D)} {x : AV} {cs' : List AV} {lent : List Nat} {vc : List (Unit → Prop)} {ds : List (Unit → D)} {nd : List D} {u v : Value}
    (hm : mget M n = some (.row nn e xs)) (hro : ros M (cellsOf x) = some (cs', lent, vc)) (hvc : ∀ p ∈ vc, p ()) (h2 : (cellsOf x).length = ti.size) (h3 : (eshAt e off ti.size).length = ti.size) (h4 : encs (eshAt e off ti.size) cs' = some ds) (h5 : n ∉ lent) (h6 : 1 ≤ ti.size)
    (hix : ix () < (xs ()).length) (hnd : ∀ k, k < e.length → lk nd k = if off ≤ k ∧ k < off + ti.size then lk (dall ds) (k - off) else lk (lk (xs ()) (ix ())) k)
    (hu : VR w I σ (.me n ix off) u) (hv : VR w I σ x v) : ∃ w', (Instr.storeAt t u v).run P w = .ok () w' ∧ Post w I σ M key .un (mset (mapply M (freeze M lent)) n (.row nn e (fun _ => (xs ()).set (ix ()) nd))) undef w' := by
  have hpl : plains (cellsOf x) = true := by
    have : ∀ (vs vs' : List AV) (l : List Nat) (c : List (Unit → Prop)) (e' : List Sh) (ds : List (Unit → D)), ros M vs = some (vs', l, c) → encs e' vs' = some ds → plains vs = true := by
      intro vs
      induction vs with
      | nil => intros; rfl
      | cons y ys ih =>
        intro vs' l c e' ds h h'
        unfold ros at h
        split at h <;> (try (cases h; done))
        rename_i y1 r1 c1 ys1 r2 c2 g1 g2
        simp only [Option.some.injEq, Prod.mk.injEq] at h
        obtain ⟨rfl, rfl, rfl⟩ := h
        cases e' with
        | nil => simp [encs] at h'
        | cons s ss =>
          simp only [encs] at h'
          split at h' <;> (try (cases h'; done))
          rename_i d' ds' k1 k2
          have := ih _ _ _ _ _ g2 k2
          unfold plains
          have hy : plain1 y = true := by
            cases y <;> first | rfl | (simp [ro] at g1; done) | skip
            · unfold ro at g1
              split at g1 <;> (try (cases g1; done))
              simp only [Option.some.injEq, Prod.mk.injEq] at g1
              obtain ⟨rfl, _⟩ := g1
              cases s <;> simp [enc] at k1
            · simp only [ro, Option.some.injEq, Prod.mk.injEq] at g1
              obtain ⟨rfl, _⟩ := g1
              cases s <;> simp [enc] at k1
          rw [hy]
          exact this
    exact this _ _ _ _ _ _ hro h4
  obtain ⟨g1, g2⟩ := cellsOf_ok hpl hv
  obtain ⟨g3, g4⟩ := ros_ok hok _ _ _ _ _ hro hvc g1
  obtain ⟨hok1, hext, _⟩ := hok.freeze g4
  have hm1 : mget (mapply M (freeze M lent)) n = some (.row nn e xs) := by rw [mget_freeze, if_neg h5]; exact hm
  obtain ⟨q, hq, hr⟩ := ok_row hok1 (.inl hm1)
  simp only [VR] at hu
  rw [hq] at hu
  rcases hr with ⟨p, rfl, cs0, ct, fz, hh, r1, r2, r3, r4, r5, r6, r7⟩ | ⟨rfl, e1, _⟩
  · simp only [PtR] at hu
    subst hu
    have l1 := VRs.length g1
    simp only [Array.length_toList] at l1
    have hb := eshAt_bound h3 h6
    have hcap : (ix () + 1) * p.sz ≤ p.cap * p.sz := Nat.mul_le_mul_right _ (by omega)
    rw [Nat.add_mul, Nat.one_mul] at hcap
    obtain ⟨w', cs1, s1, s2, s3, s4⟩ := run_storeVar_of (P := P) (t := t) hi (by omega) g2 hh r1 (off := ix () * p.sz + off) (by omega)
    refine ⟨w', s1, ?_⟩
    refine Post.after' hext (fun _ => .inl rfl) (Post.turned hok1 hm1 trivial hq s2 trivial ⟨cs1, ct, fz, s3, s4.unfrozen r1, by rw [s4.1, r2], r3, r4, by simpa using r5, r6, ?_⟩ (by simp only [VR]))
    have hIo : ∀ b, Also I (Lent σ lent) b → w'.heap[b]? = w.heap[b]? := fun b hb => s2.other b (by rintro rfl; exact hok1.sep _ ⟨n, _, p, hm1, trivial, hq, rfl⟩ hb)
    intro i hi'
    simp only [List.length_set] at hi'
    rw [DatC.iff]
    intro k s hk
    have hke : k < e.length := (List.getElem?_eq_some_iff.1 hk).1
    have hdl := encs_ok [] h4 g3
    simp only [List.length_nil, List.nil_append] at hdl
    have hcell : ∀ j, w'.cell? ⟨p.b, j, none⟩ = if ix () * p.sz + off ≤ j ∧ j < ix () * p.sz + off + ti.size then v.cells.toList[j - (ix () * p.sz + off)]? else w.cell? ⟨p.b, j, none⟩ := by
      intro j
      rw [cell_of_row w' p.b j cs1 ct fz s3, s4.2 j, cell_of_row w p.b j cs0 ct fz hh]
      rw [show v.cells.toList.length = ti.size by simp; omega]
    have hold := DatC.iff.1 (r7 i hi') k s hk
    simp only [Nat.add_zero, Nat.zero_add] at hold ⊢
    by_cases hii : i = ix ()
    · subst hii
      have e1 : lk ((xs ()).set (ix ()) nd) (ix ()) = nd := by simp [lk, List.getD, hi']
      rw [e1, hnd k hke]
      by_cases hin : off ≤ k ∧ k < off + ti.size
      · rw [if_pos hin]
        obtain ⟨u, hu1, hu2⟩ := hdl.get (k - off) s (by rw [eshAt_get (by omega) hb, show off + (k - off) = k by omega]; exact hk)
        refine ⟨u, ?_, by rw [Nat.zero_add] at hu2; exact Dat.keep hIo (fun _ h => h) _ _ _ hu2⟩
        rw [hcell, if_pos (by omega), show ix () * p.sz + k - (ix () * p.sz + off) = k - off by omega]
        exact hu1
      · rw [if_neg hin]
        obtain ⟨u, hu1, hu2⟩ := hold
        refine ⟨u, ?_, Dat.keep hIo (fun _ h => h) _ _ _ hu2⟩
        rw [hcell, if_neg (by omega)]
        exact hu1
    · have e1 : lk ((xs ()).set (ix ()) nd) i = lk (xs ()) i := by simp [lk, List.getD, List.getElem?_set_ne (Ne.symm hii)]
      rw [e1]
      obtain ⟨u, hu1, hu2⟩ := hold
      refine ⟨u, ?_, Dat.keep hIo (fun _ h => h) _ _ _ hu2⟩
      rw [hcell, if_neg]
      · exact hu1
      · rintro ⟨q1, q2⟩
        rcases Nat.lt_or_gt_of_ne hii with h | h
        · have : (i + 1) * p.sz ≤ ix () * p.sz := Nat.mul_le_mul_right _ h
          rw [Nat.add_mul, Nat.one_mul] at this
          omega
        · have : (ix () + 1) * p.sz ≤ i * p.sz := Nat.mul_le_mul_right _ h
          rw [Nat.add_mul, Nat.one_mul] at this
          omega
  · rw [e1] at hix
    simp at hix
end
end Go.Am
